/- A range over a function, symbolically. No condition. -/
import Derived.Test.YtloinbebkhcndaaSyb
import Derived.RangeFuncRecord
set_option linter.all false
namespace Go.Sx
open Go.RowKit
variable {P : Pr}

/-- A function value that may be ranged over: it gives these, one behind the other, as long as the blocks B stay as they are. -/
def Gives (P : Program) (f : FuncId) (lb : List Value) (B : Nat → Prop) (n : Nat) (xs : Nat → Value) (w0 : World) : Prop :=
  (∀ b, B b → b < w0.heap.size) ∧ (∀ args w, (callFunc f args).run P w = .ok (.enter f args) w) ∧
    ∀ (F : Fence) (m l : Nat) (J : Inv) (w : World), WideF F → F.round = none → w0.heap.size ≤ w.heap.size → (∀ b, B b → w.heap[b]? = w0.heap[b]?) → Client (fun _ => False) w.heap.size J →
      YieldsTo P l J (fun b => b < w.heap.size ∧ ¬ B b) w.heap.size n xs → J (.run 0) w (fun _ => False) →
      CallsIn F m P f (Value.func (.yield l) #[] #[] :: lb).toArray w fun e w' => ∃ v g Y, e = .returned v ∧ (g = .run n ∨ ∃ i, i ≤ n ∧ g = .stop i) ∧ J g w' Y

theorem Keep.mono {X Y : Nat → Prop} {w w' : World} (h : Keep X w w') (hXY : ∀ b, X b → Y b) : Keep Y w w' := ⟨h.os, h.tape, h.output, h.size, fun b hb hY => h.block b hb fun hx => hY (hXY b hx)⟩
theorem Keep.trans' {X Y Z : Nat → Prop} {w0 w w' : World} (h : Keep X w0 w) (h' : Keep Y w w') (hX : ∀ b, X b → Z b) (hY : ∀ b, Y b → Z b ∨ w0.heap.size ≤ b) : Keep Z w0 w' := (h.mono hX).step h' hY
theorem YieldAt.mono {F : Fence} {m : Nat} {Q : Program} {l : Nat} {args : Array Value} {w : World} {R R' : Ending → World → Prop} (h : YieldAt F m Q l args w R) (hr : ∀ e w', R e w' → R' e w') : YieldAt F m Q l args w R' := by
  obtain ⟨fn, tmps, assign, body, h1, h2⟩ := h
  exact ⟨fn, tmps, assign, body, h1, RoundIn.mono h2 hr⟩

theorem keep_putObj (w : World) (l : Nat) (o : Obj) : Keep (fun b => b = l) w (w.putObj l o) :=
  ⟨rfl, rfl, rfl, by simp, fun b _ hb => World.putObj_heap_other hb⟩

/-- An object that no name speaks of. -/
def dull : Obj → Bool
  | .loop _ => true
  | .deferred _ => true
  | _ => false
theorem cell_loop {w : World} {b o : Nat} {r : Obj} (hd : dull r = true) (h : w.heap[b]? = some r) : w.cell? ⟨b, o, none⟩ = none := by
  cases r <;> simp_all [World.cell?, dull]

theorem rangeAt_loop {w : World} {b o : Nat} {cs : List Value} {r : Obj} (hd : dull r = true) (h : w.heap[b]? = some r) (hr : w.rangeAt b o cs) (w' : World) : w'.rangeAt b o cs := fun j v hj => by
  have := hr j v hj
  rw [cell_loop hd h] at this
  cases this

theorem holds_loop {ρ : Env} {w : World} {k : Nat} {c : Chunk} {r : Obj} (hd : dull r = true) (h : w.heap[(ρ k).b]? = some r) (hw : c.wr = false) (hh : Holds ρ w k c) (w' : World) : Holds ρ w' k c := by
  cases c with
  | none => trivial
  | cells wr fs =>
    simp only [Chunk.wr] at hw
    exact ⟨hh.1, rangeAt_loop hd h hh.2.1 w', fun hx => by rw [hw] at hx; cases hx⟩
  | row wr n s f =>
    simp only [Chunk.wr] at hw
    simp only [Holds] at hh ⊢
    split
    · rename_i hn; rw [if_pos hn] at hh; exact hh
    · rename_i hn
      rw [if_neg hn] at hh
      exact ⟨rangeAt_loop hd h hh.1 w', hh.2.1, fun hx => by rw [hw] at hx; cases hx⟩
  | map n key val born clock =>
    have := hh.2
    rw [h] at this
    cases this
    cases hd

def rep (l : Nat) (o : Obj) (p : Nat × Obj) : Nat × Obj := if p.1 = l then (l, o) else p
theorem rep_fst (l : Nat) (o : Obj) (p : Nat × Obj) : (rep l o p).1 = p.1 := by
  unfold rep; split
  · rename_i h; exact h.symm
  · rfl

/-- The loop's record turns. -/
theorem MG.put {G : Ghost} {Ob : List (Nat × Obj)} {Y : Nat → Prop} {g : Gh} {ρ : Env} {H : List Chunk} {w : World} (hG : G.Ok P) (h : MG G Ob Y g ρ H w) {l : Nat} {r : Obj} (hd : dull r = true) (o' : Obj)
    (hl : (l, r) ∈ Ob) (hX : G.C.X l ∨ G.C.w0.heap.size ≤ l) : MG G (Ob.map (rep l o')) Y g ρ H (w.putObj l o') := by
  obtain ⟨hh, hV, hY⟩ := h.ob _ hl
  simp only at hh hV hY
  have hk := keep_putObj w l o'
  refine ⟨⟨?_, h.m.agree, h.m.len, ?_, h.m.okc, ?_, h.m.wr, h.m.sep⟩, h.own, h.ny, ?_, ?_, ?_, ?_⟩
  · exact h.m.keep.step hk fun b hb => by subst hb; exact hX.elim (fun h => .inl (.inl h)) .inr
  · intro k c hc
    by_cases hl' : c.live = true
    · cases hw : c.wr with
      | true => exact holds_block (fun hn => World.putObj_heap_other (h.no k c hc ⟨hw, hn⟩ _ hl)) (h.m.holds k c hc)
      | false =>
        by_cases hb : (ρ k).b = l
        · exact holds_loop (r := r) hd (by rw [hb]; exact hh) hw (h.m.holds k c hc) _
        · exact holds_block (fun _ => World.putObj_heap_other hb) (h.m.holds k c hc)
    · cases c <;> simp [Chunk.live] at hl'
      trivial
  · exact fun k c hc hR => by rw [World.putObj_size]; exact h.m.size k c hc hR
  · intro k c hc hR p hp
    obtain ⟨q, hq, rfl⟩ := List.mem_map.1 hp
    rw [rep_fst]
    exact h.no k c hc hR q hq
  · intro p hp
    obtain ⟨q, hq, rfl⟩ := List.mem_map.1 hp
    obtain ⟨h1, h2, h3⟩ := h.ob q hq
    rw [rep_fst]
    refine ⟨?_, h2, h3⟩
    unfold rep
    split
    · rename_i hql
      rw [hql]
      exact World.putObj_heap_same (heap_lt hh)
    · rename_i hql
      exact (World.putObj_heap_other hql).trans h1
  · intro b hb
    rw [World.putObj_size]
    exact h.yb b hb
  · exact hG.cl.stable h.j hk fun b hb => by subst hb; exact ⟨hX, hY⟩

theorem MG.sub {G : Ghost} {Ob Ob' : List (Nat × Obj)} {Y : Nat → Prop} {g : Gh} {ρ : Env} {H : List Chunk} {w : World} (h : MG G Ob Y g ρ H w) (hs : ∀ p ∈ Ob', p ∈ Ob) : MG G Ob' Y g ρ H w :=
  ⟨h.m, h.own, h.ny, fun k c hc hR p hp => h.no k c hc hR p (hs p hp), fun p hp => h.ob p (hs p hp), h.yb, h.j⟩

/-- A step of somebody else's. -/
theorem MG.beside {G : Ghost} {Ob : List (Nat × Obj)} {Y Z : Nat → Prop} {g : Gh} {ρ : Env} {H : List Chunk} {w w' : World} (hG : G.Ok P) (h : MG G Ob Y g ρ H w) (hk : Keep Z w w')
    (hZ : ∀ b, Z b → G.C.w0.heap.size ≤ b ∧ ¬ Y b ∧ (∀ p ∈ Ob, b ≠ p.1) ∧ ∀ k c, H[k]? = some c → Real ρ k c → (ρ k).b ≠ b) : MG G Ob Y g ρ H w' := by
  refine ⟨⟨?_, h.m.agree, h.m.len, ?_, h.m.okc, ?_, h.m.wr, h.m.sep⟩, h.own, h.ny, h.no, ?_, ?_, ?_⟩
  · exact h.m.keep.step hk fun b hb => .inr (hZ b hb).1
  · intro k c hc
    by_cases hl : c.live = true
    · exact holds_block (fun hn => hk.block _ (h.m.size k c hc ⟨hl, hn⟩) fun hz => (hZ _ hz).2.2.2 k c hc ⟨hl, hn⟩ rfl) (h.m.holds k c hc)
    · cases c <;> simp [Chunk.live] at hl
      trivial
  · exact fun k c hc hR => Nat.lt_of_lt_of_le (h.m.size k c hc hR) hk.size
  · intro p hp
    obtain ⟨h1, h2, h3⟩ := h.ob p hp
    exact ⟨(hk.block p.1 (heap_lt h1) fun hz => (hZ _ hz).2.2.1 p hp rfl).trans h1, h2, h3⟩
  · exact fun b hb => ⟨(h.yb b hb).1, Nat.lt_of_lt_of_le (h.yb b hb).2 hk.size⟩
  · exact hG.cl.stable h.j hk fun b hb => ⟨.inr (hZ b hb).1, (hZ b hb).2.1⟩

/-! ### What an iterator reads may not be written while it is under way -/
def frz1 : Chunk → Chunk
  | .cells _ fs => .cells false fs
  | .row _ n s f => .row false n s f
  | c => c
def frz (qs : List Nat) : Nat → List Chunk → List Chunk
  | _, [] => []
  | k, c :: r => (match inL qs k with | true => frz1 c | false => c) :: frz qs (k + 1) r
theorem frz_length (qs : List Nat) : ∀ (k : Nat) (h : List Chunk), (frz qs k h).length = h.length
  | _, [] => rfl
  | k, c :: r => by simp [frz, frz_length qs (k + 1) r]
theorem frz_get {qs : List Nat} : ∀ {h : List Chunk} {k0 k : Nat} {c : Chunk}, (frz qs k0 h)[k]? = some c → ∃ c0, h[k]? = some c0 ∧ (c = c0 ∧ inL qs (k0 + k) = false ∨ c = frz1 c0 ∧ inL qs (k0 + k) = true)
  | [], _, _, _, h => by simp [frz] at h
  | c0 :: r, k0, 0, c, h => by
    simp only [frz, List.getElem?_cons_zero, Option.some.injEq] at h
    refine ⟨c0, rfl, ?_⟩
    rw [Nat.add_zero]
    cases hq : inL qs k0 <;> rw [hq] at h <;> simp only at h
    · exact .inl ⟨h.symm, rfl⟩
    · exact .inr ⟨h.symm, rfl⟩
  | c0 :: r, k0, k + 1, c, h => by
    simp only [frz, List.getElem?_cons_succ] at h
    obtain ⟨c1, h1, h2⟩ := frz_get (k0 := k0 + 1) (k := k) h
    exact ⟨c1, by simpa using h1, by rwa [show k0 + (k + 1) = k0 + 1 + k by omega]⟩
theorem frz1_live (c : Chunk) : (frz1 c).live = c.live := by cases c <;> rfl
theorem frz1_wr {c : Chunk} (h : (frz1 c).wr = true) : c.wr = true := by cases c <;> simp_all [frz1, Chunk.wr]
theorem frz1_good {n : Nat} {c : Chunk} (h : c.good n) : (frz1 c).good n := by cases c <;> exact h
theorem frz1_holds {ρ : Env} {w : World} {k : Nat} {c : Chunk} (h : Holds ρ w k c) : Holds ρ w k (frz1 c) := by
  cases c with
  | none => trivial
  | cells wr fs => exact ⟨h.1, h.2.1, fun hx => by cases hx⟩
  | row wr n s f =>
    simp only [Holds, frz1] at h ⊢
    split
    · rename_i hn; rw [if_pos hn] at h; exact h
    · rename_i hn; rw [if_neg hn] at h; exact ⟨h.1, h.2.1, fun hx => by cases hx⟩
  | map n key val born clock => exact h

theorem frz_all {qs : List Nat} {h : List Chunk} {k : Nat} {c : Chunk} (hc : (frz qs 0 h)[k]? = some c) : ∃ c0, h[k]? = some c0 ∧ c.live = c0.live ∧ (c.wr = true → c0.wr = true) ∧ (∀ n, c0.good n → c.good n) ∧ (∀ ρ w, Holds ρ w k c0 → Holds ρ w k c) := by
  obtain ⟨c0, h1, h2⟩ := frz_get hc
  refine ⟨c0, h1, ?_⟩
  rcases h2 with ⟨rfl, _⟩ | ⟨rfl, _⟩
  · exact ⟨rfl, id, fun _ => id, fun _ _ => id⟩
  · exact ⟨frz1_live _, frz1_wr, fun _ => frz1_good, fun _ _ => frz1_holds⟩

theorem MG.freeze {G : Ghost} {Ob : List (Nat × Obj)} {Y : Nat → Prop} {g : Gh} {ρ : Env} {H : List Chunk} {w : World} (h : MG G Ob Y g ρ H w) (qs : List Nat) : MG G Ob Y g ρ (frz qs 0 H) w := by
  refine ⟨⟨h.m.keep, h.m.agree, by rw [frz_length]; exact h.m.len, ?_, ?_, ?_, ?_, ?_⟩, ?_, ?_, ?_, h.ob, h.yb, h.j⟩
  · intro k c hc; obtain ⟨c0, h1, h2, h3, h4, h5⟩ := frz_all hc; exact h5 _ _ (h.m.holds k c0 h1)
  · intro k c hc; obtain ⟨c0, h1, h2, h3, h4, h5⟩ := frz_all hc; rw [frz_length]; exact h4 _ (h.m.okc k c0 h1)
  · intro k c hc hR; obtain ⟨c0, h1, h2, h3, h4, h5⟩ := frz_all hc; exact h.m.size k c0 h1 ⟨by rw [← h2]; exact hR.1, hR.2⟩
  · intro k c hc hR; obtain ⟨c0, h1, h2, h3, h4, h5⟩ := frz_all hc; exact h.m.wr k c0 h1 ⟨h3 hR.1, hR.2⟩
  · intro k k' c c' hc hc' hne hR hR'
    obtain ⟨c0, h1, h2, h3, h4, h5⟩ := frz_all hc
    obtain ⟨c0', h1', h2', h3', h4', h5'⟩ := frz_all hc'
    exact h.m.sep k k' c0 c0' h1 h1' hne ⟨h3 hR.1, hR.2⟩ ⟨by rw [← h2']; exact hR'.1, hR'.2⟩
  · intro k c hc hR; obtain ⟨c0, h1, h2, h3, h4, h5⟩ := frz_all hc; exact h.own k c0 h1 ⟨h3 hR.1, hR.2⟩
  · intro k c hc hR; obtain ⟨c0, h1, h2, h3, h4, h5⟩ := frz_all hc; exact h.ny k c0 h1 ⟨h3 hR.1, hR.2⟩
  · intro k c hc hR; obtain ⟨c0, h1, h2, h3, h4, h5⟩ := frz_all hc; exact h.no k c0 h1 ⟨h3 hR.1, hR.2⟩

/-- The names that stay while a loop is under way. -/
def liveA (h : List Chunk) (k : Nat) : Bool := (lookH h k).live
theorem liveA_lt {h : List Chunk} {k : Nat} (hk : liveA h k = true) : ∃ c, h[k]? = some c ∧ c.live = true := by
  unfold liveA at hk
  exact ⟨lookH h k, lookH_some rfl (by intro e; rw [e] at hk; cases hk), hk⟩
theorem lookH_get? {h : List Chunk} {k : Nat} {c : Chunk} (hc : h[k]? = some c) : lookH h k = c := by
  induction h generalizing k with
  | nil => simp at hc
  | cons x h ih =>
    cases k with
    | zero => simp at hc; simpa [lookH] using hc
    | succ k => simpa [lookH] using ih (by simpa using hc)
theorem roA_live (h : List Chunk) : roA (liveA h) 0 h := by
  have : ∀ (r : List Chunk) (k0 : Nat), (∀ k c, r[k]? = some c → c.live = true → liveA h (k0 + k) = true) → roA (liveA h) k0 r := by
    intro r
    induction r with
    | nil => intro _ _; trivial
    | cons c r ih =>
      intro k0 hr
      refine ⟨?_, ih (k0 + 1) fun k c hc hl => ?_⟩
      · cases hl : c.live with
        | true => exact .inr (.inr (hr 0 c rfl hl))
        | false => exact .inr (.inl rfl)
      · have := hr (k + 1) c (by simpa using hc) hl
        rwa [show k0 + (k + 1) = k0 + 1 + k by omega] at this
  refine this h 0 fun k c hc hl => ?_
  rw [Nat.zero_add]
  unfold liveA
  rw [lookH_get? hc]
  exact hl

/-- How a round may leave the loop. -/
def leaves : Exit → Option Code
  | .ret => some .ret
  | .exit id => some (.exit id)
  | _ => none
end Go.Sx
