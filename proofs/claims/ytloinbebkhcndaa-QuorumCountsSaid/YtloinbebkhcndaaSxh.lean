/- How the symbolic heap follows the world. No condition. -/
import Derived.Test.YtloinbebkhcndaaSxg
set_option linter.all false
namespace Go.Sx
open Go.RowKit
variable {P : Program}

theorem rangeAt_block {w w' : World} {b o : Nat} {cs : List Value} (h : w'.heap[b]? = w.heap[b]?) (hr : w.rangeAt b o cs) : w'.rangeAt b o cs := fun j v hj => by
  rw [World.cell?_of_block (w := w) (w' := w') h]; exact hr j v hj
theorem there_block {w w' : World} {b o n : Nat} (h : w'.heap[b]? = w.heap[b]?) (hr : w.there b o n) : w'.there b o n := fun j hj => by
  rw [World.cell?_of_block (w := w) (w' := w') h, World.frozen?_of_block (w := w) (w' := w') h]; exact hr j hj

theorem holds_block {ρ : Env} {w w' : World} {k : Nat} {c : Chunk} (h : (ρ k).nil = false → w'.heap[(ρ k).b]? = w.heap[(ρ k).b]?) (hh : Holds ρ w k c) : Holds ρ w' k c := by
  cases c with
  | none => trivial
  | cells wr fs => exact ⟨hh.1, rangeAt_block (h hh.1) hh.2.1, fun hw => there_block (h hh.1) (hh.2.2 hw)⟩
  | row wr n s f =>
    simp only [Holds] at hh ⊢
    split
    · rename_i hn; rw [if_pos hn] at hh; exact hh
    · rename_i hn
      rw [if_neg hn] at hh
      have hn' : (ρ k).nil = false := by simpa using hn
      exact ⟨rangeAt_block (h hn') hh.1, hh.2.1, fun hw => there_block (h hn') (hh.2.2 hw)⟩
  | map n key val born clock => exact ⟨hh.1, (h hh.1).trans hh.2⟩

theorem good_mono {n m : Nat} (h : n ≤ m) {c : Chunk} (hc : c.good n) : c.good m := by
  cases c with
  | none => trivial
  | cells wr fs => exact ⟨okL_mono h _ hc.1, hc.2⟩
  | row wr n s f => exact ⟨ok_mono h _ hc.1, hc.2⟩
  | map k key val born clock => exact fun i hi => ⟨ok_mono h _ (hc i hi).1, ok_mono h _ (hc i hi).2⟩

theorem mapObj_agree {n : Nat} {ρ ρ' : Env} (ha : Agree n ρ ρ') {m : Nat} {key val : Nat → SV} {born : Nat → Nat} {clock : Nat} (hc : Chunk.good n (.map m key val born clock)) :
    mapObj ρ' m key val born clock = mapObj ρ m key val born clock := by
  unfold mapObj
  congr 2
  apply List.map_congr_left
  intro i hi
  rw [List.mem_range] at hi
  rw [den_agree ha _ (hc i hi).1, den_agree ha _ (hc i hi).2]

theorem holds_agree {n : Nat} {ρ ρ' : Env} (ha : Agree n ρ ρ') {w : World} {k : Nat} (hk : k < n) {c : Chunk} (hc : c.good n) (hh : Holds ρ w k c) : Holds ρ' w k c := by
  cases c with
  | none => trivial
  | cells wr fs =>
    have := denC_agree ha fs hc.1
    simp only [Holds, ha k hk, this]
    exact hh
  | row wr n s f =>
    have := den_agree ha (.fam n s f) hc.1
    simp only [Holds, ha k hk, this]
    exact hh
  | map m key val born clock =>
    simp only [Holds, ha k hk, mapObj_agree ha hc]
    exact hh

theorem get_lt {α : Type} {l : List α} {k : Nat} {x : α} (h : l[k]? = some x) : k < l.length := by
  rcases Nat.lt_or_ge k l.length with h' | h'
  · exact h'
  · simp [List.getElem?_eq_none h'] at h

theorem Models.step {C : Ctx} {ρ ρ' : Env} {H H' : List Chunk} {w w' : World} {Y : Nat → Prop} (hM : Models C ρ H w) (hk : Keep Y w w')
    (hY : ∀ b, Y b → ∃ k c, H[k]? = some c ∧ RealW ρ k c ∧ (ρ k).b = b) (ha : Agree H.length ρ ρ') (hlen : H.length ≤ H'.length)
    (h' : ∀ k c', H'[k]? = some c' → (H[k]? = some c' ∧ (Real ρ k c' → ¬ Y (ρ k).b)) ∨
      (c'.good H'.length ∧ Holds ρ' w' k c' ∧ (Real ρ' k c' → (ρ' k).b < w'.heap.size) ∧ (RealW ρ' k c' → w.heap.size ≤ (ρ' k).b ∨ ∃ k0 c0, H[k0]? = some c0 ∧ RealW ρ k0 c0 ∧ (ρ k0).b = (ρ' k).b)))
    (hs : ∀ k k' c c', H'[k]? = some c → H'[k']? = some c' → k ≠ k' → RealW ρ' k c → Real ρ' k' c' → (ρ' k).b ≠ (ρ' k').b) : Models C ρ' H' w' where
  keep := hM.keep.step hk fun b hb => by
    obtain ⟨k, c, h1, h2, rfl⟩ := hY b hb
    exact hM.wr k c h1 h2
  agree := fun k hk0 => (ha k (Nat.lt_of_lt_of_le hk0 hM.len)).trans (hM.agree k hk0)
  len := Nat.le_trans hM.len hlen
  holds := fun k c hc => by
    rcases h' k c hc with ⟨h1, h2⟩ | h1
    · have hkl := get_lt h1
      have hold := hM.holds k c h1
      by_cases hl : c.live = true
      · exact holds_agree ha hkl (hM.okc k c h1) (holds_block (fun hn => hk.block (ρ k).b (hM.size k c h1 ⟨hl, hn⟩) (h2 ⟨hl, hn⟩)) hold)
      · cases c <;> simp [Chunk.live] at hl
        trivial
    · exact h1.2.1
  okc := fun k c hc => by
    rcases h' k c hc with ⟨h1, _⟩ | h1
    · exact good_mono hlen (hM.okc k c h1)
    · exact h1.1
  size := fun k c hc hl => by
    rcases h' k c hc with ⟨h1, _⟩ | h1
    · have e := ha k (get_lt h1)
      rw [e]; exact Nat.lt_of_lt_of_le (hM.size k c h1 ⟨hl.1, by rw [← e]; exact hl.2⟩) hk.size
    · exact h1.2.2.1 hl
  wr := fun k c hc hw => by
    rcases h' k c hc with ⟨h1, _⟩ | h1
    · have e := ha k (get_lt h1)
      rw [e]; exact hM.wr k c h1 ⟨hw.1, by rw [← e]; exact hw.2⟩
    · rcases h1.2.2.2 hw with h2 | ⟨k0, c0, h2, h3, h4⟩
      · exact .inr (Nat.le_trans hM.keep.size h2)
      · rw [← h4]; exact hM.wr k0 c0 h2 h3
  sep := hs

def upd (ρ : Env) (n : Nat) (p : Place) : Env := fun k => if k = n then p else ρ k
theorem agree_upd (ρ : Env) (n : Nat) (p : Place) : Agree n ρ (upd ρ n p) := fun k hk => by
  unfold upd; rw [if_neg (by omega)]
theorem upd_self (ρ : Env) (n : Nat) (p : Place) : upd ρ n p n = p := by simp [upd]

/-- A new block: nothing old turned. -/
theorem keep_alloc (w : World) (o : Obj) : Keep (fun _ => False) w (w.alloc o) :=
  ⟨rfl, rfl, rfl, by simp, fun b hb _ => Below.heap_alloc w o b hb⟩

theorem append_get {α : Type} {l : List α} {x y : α} {k : Nat} (h : (l ++ [x])[k]? = some y) : l[k]? = some y ∨ (k = l.length ∧ y = x) := by
  rcases Nat.lt_or_ge k l.length with h' | h'
  · rw [List.getElem?_append_left h'] at h; exact .inl h
  · rw [List.getElem?_append_right h'] at h
    cases hk : k - l.length with
    | zero => rw [hk] at h; simp at h; exact .inr ⟨by omega, h.symm⟩
    | succ m => rw [hk] at h; simp at h

theorem live_of_wr {c : Chunk} (h : c.wr = true) : c.live = true := by cases c <;> simp_all [Chunk.wr, Chunk.live]
theorem RealW.real {ρ : Env} {k : Nat} {c : Chunk} (h : RealW ρ k c) : Real ρ k c := ⟨live_of_wr h.1, h.2⟩
theorem real_agree {n : Nat} {ρ ρ' : Env} (ha : Agree n ρ ρ') {k : Nat} (hk : k < n) {c : Chunk} (h : Real ρ' k c) : Real ρ k c := ⟨h.1, by rw [← ha k hk]; exact h.2⟩
theorem realW_agree {n : Nat} {ρ ρ' : Env} (ha : Agree n ρ ρ') {k : Nat} (hk : k < n) {c : Chunk} (h : RealW ρ' k c) : RealW ρ k c := ⟨h.1, by rw [← ha k hk]; exact h.2⟩

/-- A new name for a new block (or for a nil slice). -/
theorem Models.alloc {C : Ctx} {ρ : Env} {H : List Chunk} {w w' : World} (hM : Models C ρ H w) (hk : Keep (fun _ => False) w w') {c : Chunk} {p : Place}
    (hp : p.nil = false → p.b = w.heap.size ∧ p.b < w'.heap.size) (hg : c.good (H.length + 1)) (hh : Holds (upd ρ H.length p) w' H.length c) :
    Models C (upd ρ H.length p) (H ++ [c]) w' := by
  have ha := agree_upd ρ H.length p
  refine hM.step hk (fun _ h => h.elim) ha (by simp) ?_ ?_
  · intro k c' hc
    rcases append_get hc with h1 | ⟨rfl, rfl⟩
    · exact .inl ⟨h1, fun _ h => h⟩
    · refine .inr ⟨by simpa using hg, hh, fun hr => ?_, fun hr => .inl ?_⟩
      · have := hr.2; rw [upd_self] at this ⊢; exact (hp this).2
      · have := hr.2; rw [upd_self] at this ⊢; exact Nat.le_of_eq (hp this).1.symm
  · intro k k' c1 c2 h1 h2 hne hw hl
    rcases append_get h1 with q1 | ⟨rfl, rfl⟩ <;> rcases append_get h2 with q2 | ⟨rfl, rfl⟩
    · rw [ha k (get_lt q1), ha k' (get_lt q2)]; exact hM.sep k k' c1 c2 q1 q2 hne (realW_agree ha (get_lt q1) hw) (real_agree ha (get_lt q2) hl)
    · have hn := hl.2
      rw [upd_self] at hn
      rw [ha k (get_lt q1), upd_self]
      have := hM.size k c1 q1 (realW_agree ha (get_lt q1) hw).real
      have := (hp hn).1
      omega
    · have hn := hw.2
      rw [upd_self] at hn
      rw [ha k' (get_lt q2), upd_self]
      have := hM.size k' c2 q2 (real_agree ha (get_lt q2) hl)
      have := (hp hn).1
      omega
    · exact absurd rfl hne

/-- A chunk written. -/
theorem Models.write {C : Ctx} {ρ : Env} {H : List Chunk} {w w' : World} (hM : Models C ρ H w) {k : Nat} {c c' : Chunk} (hc : H[k]? = some c) (hw : RealW ρ k c) (hk : Keep (fun b => b = (ρ k).b) w w')
    (hg : c'.good H.length) (hh : Holds ρ w' k c') : Models C ρ (putH H k c') w' := by
  have hlen := putH_length H k c'
  have hget : ∀ j y, (putH H k c')[j]? = some y → (j ≠ k ∧ H[j]? = some y) ∨ (j = k ∧ y = c') := by
    intro j y hj
    rw [putH_get] at hj
    by_cases hjk : j = k
    · subst hjk; simp [hc] at hj; exact .inr ⟨rfl, hj.symm⟩
    · rw [if_neg hjk] at hj; exact .inl ⟨hjk, hj⟩
  refine hM.step hk ?_ (fun _ _ => rfl) (by omega) ?_ ?_
  · intro b hb; exact ⟨k, c, hc, hw, hb.symm⟩
  · intro j y hj
    rcases hget j y hj with ⟨h1, h2⟩ | ⟨rfl, rfl⟩
    · exact .inl ⟨h2, fun hl he => (hM.sep k j c y hc h2 (Ne.symm h1) hw hl) he.symm⟩
    · exact .inr ⟨by rw [hlen]; exact hg, hh, fun _ => Nat.lt_of_lt_of_le (hM.size j c hc hw.real) hk.size, fun _ => .inr ⟨j, c, hc, hw, rfl⟩⟩
  · intro j j' y y' h1 h2 hne hyw hyl
    rcases hget j y h1 with ⟨a1, a2⟩ | ⟨rfl, rfl⟩ <;> rcases hget j' y' h2 with ⟨b1, b2⟩ | ⟨rfl, rfl⟩
    · exact hM.sep j j' y y' a2 b2 hne hyw hyl
    · exact hM.sep j j' y c a2 hc hne hyw hw.real
    · exact hM.sep j j' c y' hc b2 hne hw hyl
    · exact absurd rfl hne

/-- A chunk's name dies; a new name stands for the same block. -/
theorem Models.move {C : Ctx} {ρ : Env} {H : List Chunk} {w w' : World} (hM : Models C ρ H w) {k : Nat} {c c' : Chunk} (hc : H[k]? = some c) (hw : RealW ρ k c) (hk : Keep (fun b => b = (ρ k).b) w w') {p : Place} (hp : p.b = (ρ k).b)
    (hg : c'.good (H.length + 1)) (hh : Holds (upd ρ H.length p) w' H.length c') : Models C (upd ρ H.length p) (putH H k .none ++ [c']) w' := by
  have hlen := putH_length H k .none
  have ha := agree_upd ρ H.length p
  have hsz : (ρ k).b < w'.heap.size := Nat.lt_of_lt_of_le (hM.size k c hc hw.real) hk.size
  have hget : ∀ (j : Nat) (y : Chunk), (putH H k .none)[j]? = some y → (j ≠ k ∧ H[j]? = some y) ∨ (j = k ∧ y = Chunk.none) := by
    intro j y hj
    rw [putH_get] at hj
    by_cases hjk : j = k
    · subst hjk; simp [hc] at hj; exact .inr ⟨rfl, hj.symm⟩
    · rw [if_neg hjk] at hj; exact .inl ⟨hjk, hj⟩
  refine hM.step hk ?_ ha (by simp [hlen]) ?_ ?_
  · intro b hb; exact ⟨k, c, hc, hw, hb.symm⟩
  · intro j y hj
    rcases append_get hj with h2 | ⟨rfl, rfl⟩
    · rcases hget j y h2 with ⟨a1, a2⟩ | ⟨rfl, rfl⟩
      · exact .inl ⟨a2, fun hl he => (hM.sep k j c y hc a2 (Ne.symm a1) hw hl) he.symm⟩
      · exact .inr ⟨trivial, trivial, fun h => by simp [Real, Chunk.live] at h, fun h => by simp [RealW, Chunk.wr] at h⟩
    · rw [hlen]
      refine .inr ⟨by simpa [hlen] using hg, hh, fun _ => by rw [upd_self, hp]; exact hsz, fun _ => .inr ⟨k, c, hc, hw, by rw [upd_self, hp]⟩⟩
  · intro j j' y y' h1 h2 hne hyw hyl
    rcases append_get h1 with q1 | ⟨rfl, rfl⟩ <;> rcases append_get h2 with q2 | ⟨rfl, rfl⟩
    · rcases hget j y q1 with ⟨a1, a2⟩ | ⟨rfl, rfl⟩ <;> rcases hget j' y' q2 with ⟨b1, b2⟩ | ⟨rfl, rfl⟩
      · rw [ha j (get_lt a2), ha j' (get_lt b2)]; exact hM.sep j j' y y' a2 b2 hne (realW_agree ha (get_lt a2) hyw) (real_agree ha (get_lt b2) hyl)
      · simp [Real, Chunk.live] at hyl
      · simp [RealW, Chunk.wr] at hyw
      · exact absurd rfl hne
    · rw [hlen, upd_self, hp]
      rcases hget j y q1 with ⟨a1, a2⟩ | ⟨rfl, rfl⟩
      · rw [ha j (get_lt a2)]
        exact hM.sep j k y c a2 hc a1 (realW_agree ha (get_lt a2) hyw) hw.real
      · simp [RealW, Chunk.wr] at hyw
    · rw [hlen, upd_self, hp]
      rcases hget j' y' q2 with ⟨b1, b2⟩ | ⟨rfl, rfl⟩
      · rw [ha j' (get_lt b2)]
        exact hM.sep k j' c y' hc b2 (Ne.symm b1) hw (real_agree ha (get_lt b2) hyl)
      · simp [Real, Chunk.live] at hyl
    · exact absurd rfl hne

/-- Nothing seen has turned. -/
theorem Models.same {C : Ctx} {ρ : Env} {H : List Chunk} {w w' : World} (hM : Models C ρ H w) (hk : Keep (fun _ => False) w w') : Models C ρ H w' :=
  hM.step hk (fun _ h => h.elim) (fun _ _ => rfl) (Nat.le_refl _) (fun k c hc => .inl ⟨hc, fun _ h => h⟩) hM.sep

/-- A name that dies. -/
theorem Models.forget {C : Ctx} {ρ : Env} {H : List Chunk} {w : World} (hM : Models C ρ H w) (k : Nat) : Models C ρ (putH H k .none) w := by
  have hlen := putH_length H k .none
  have hget : ∀ (j : Nat) (y : Chunk), (putH H k .none)[j]? = some y → H[j]? = some y ∨ y = Chunk.none := by
    intro j y hj
    rw [putH_get] at hj
    by_cases hjk : j = k
    · rw [if_pos hjk] at hj
      cases hH : H[j]? with
      | none => simp [hH] at hj
      | some z => simp [hH] at hj; exact .inr hj.symm
    · rw [if_neg hjk] at hj; exact .inl hj
  refine hM.step (Keep.refl (fun _ => False) w) (fun _ h => h.elim) (fun _ _ => rfl) (by omega) ?_ ?_
  · intro j y hj
    rcases hget j y hj with h1 | rfl
    · exact .inl ⟨h1, fun _ h => h⟩
    · exact .inr ⟨trivial, trivial, fun h => by simp [Real, Chunk.live] at h, fun h => by simp [RealW, Chunk.wr] at h⟩
  · intro j j' y y' h1 h2 hne hyw hyl
    rcases hget j y h1 with a | rfl <;> rcases hget j' y' h2 with b | rfl
    · exact hM.sep j j' y y' a b hne hyw hyl
    · simp [Real, Chunk.live] at hyl
    · simp [RealW, Chunk.wr] at hyw
    · simp [RealW, Chunk.wr] at hyw

/-- Cells written: only that block turned. -/
theorem heap_setCells (b : Nat) : ∀ (vs : List Value) (o : Nat) (w : World) (k : Nat), k ≠ b → (w.setCells b o vs).heap[k]? = w.heap[k]?
  | [], _, _, _, _ => rfl
  | v :: r, o, w, k, h => by
    rw [World.setCells, heap_setCells b r (o + 1) _ k h]
    exact Below.heap_setCell w ⟨b, o, none⟩ v k h
theorem size_setCells (b : Nat) : ∀ (vs : List Value) (o : Nat) (w : World), (w.setCells b o vs).heap.size = w.heap.size
  | [], _, _ => rfl
  | v :: r, o, w => by rw [World.setCells, size_setCells b r (o + 1)]; simp
theorem rest_setCells (b : Nat) : ∀ (vs : List Value) (o : Nat) (w : World), (w.setCells b o vs).os = w.os ∧ (w.setCells b o vs).tape = w.tape ∧ (w.setCells b o vs).output = w.output
  | [], _, _ => ⟨rfl, rfl, rfl⟩
  | v :: r, o, w => by rw [World.setCells]; obtain ⟨h1, h2, h3⟩ := rest_setCells b r (o + 1) (w.setCell ⟨b, o, none⟩ v); exact ⟨h1, h2, h3⟩
theorem keep_setCells (w : World) (b o : Nat) (vs : List Value) : Keep (fun k => k = b) w (w.setCells b o vs) := by
  obtain ⟨h1, h2, h3⟩ := rest_setCells b vs o w
  exact ⟨h1, h2, h3, by rw [size_setCells]; exact Nat.le_refl _, fun k _ hk => heap_setCells b vs o w k hk⟩

end Go.Sx
