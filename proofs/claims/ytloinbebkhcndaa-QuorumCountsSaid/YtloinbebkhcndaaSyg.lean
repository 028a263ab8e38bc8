/- What a walk may know: a sequence, a function that only reads. No condition. -/
import Derived.Test.YtloinbebkhcndaaSyf
set_option linter.all false
namespace Go.Sx
open Go.RowKit

theorem Gives.later {p : Program} {f : FuncId} {lb : List Value} {B : Nat → Prop} {n : Nat} {xs : Nat → Value} {w0 w : World} (h : Gives p f lb B n xs w0) (hs : w0.heap.size ≤ w.heap.size) (hb : ∀ b, B b → w.heap[b]? = w0.heap[b]?) : Gives p f lb B n xs w :=
  ⟨fun b hB => Nat.lt_of_lt_of_le (h.1 b hB) hs, h.2.1, fun F m l J W hF hr hs' hb' hcl hyl hj => by
    refine h.2.2 F m l J W hF hr (Nat.le_trans hs hs') (fun b hB => (hb' b hB).trans (hb b hB)) hcl hyl hj⟩
theorem PureAt.later {p : Program} {B : Nat → Prop} {fv : Value} {a : List Value} {r : Value} {w0 w : World} (h : PureAt p B fv a r w0) (hs : w0.heap.size ≤ w.heap.size) (hb : ∀ b, B b → w.heap[b]? = w0.heap[b]?) : PureAt p B fv a r w := by
  obtain ⟨f, cap, h1, h2, h3, h4⟩ := h
  exact ⟨f, cap, h1, h2, fun b hB => Nat.lt_of_lt_of_le (h3 b hB) hs, fun F m W hF hr hs' hb' => h4 F m W hF hr (Nat.le_trans hs hs') fun b hB => (hb' b hB).trans (hb b hB)⟩

theorem Gives.wider {p : Program} {f : FuncId} {lb : List Value} {B B' : Nat → Prop} {n : Nat} {xs : Nat → Value} {w : World} (h : Gives p f lb B n xs w) (hB : ∀ b, B b → B' b) (hs : ∀ b, B' b → b < w.heap.size) : Gives p f lb B' n xs w :=
  ⟨hs, h.2.1, fun F m l J W hF hr hs' hb' hcl hyl hj => h.2.2 F m l J W hF hr hs' (fun b hb => hb' b (hB b hb)) hcl (fun i w Y F k hF hi hsz hY hJ => YieldAt.mono (hyl i w Y F k hF hi hsz hY hJ) fun e w' he => ⟨he.1.mono fun b hb => hb.imp id fun hv => ⟨hv.1, fun hx => hv.2 (hB b hx)⟩, he.2⟩) hj⟩
theorem Gives.cong {p : Program} {f : FuncId} {lb : List Value} {B : Nat → Prop} {n n' : Nat} {xs xs' : Nat → Value} {w : World} (h : Gives p f lb B n xs w) (hn : n = n') (hx : ∀ i, i < n → xs i = xs' i) : Gives p f lb B n' xs' w := by
  subst hn
  refine ⟨h.1, h.2.1, fun F m l J W hF hr hs' hb' hcl hyl hj => h.2.2 F m l J W hF hr hs' hb' hcl (fun i w Y F k hF hi hsz hY hJ => ?_) hj⟩
  rw [hx i hi]
  exact hyl i w Y F k hF hi hsz hY hJ

/-- Known: a sequence. -/
def seqK (p : Program) (f : FuncId) (lb : List Value) (n : Nat) (xs : Nat → Value) (w : World) (X : Nat → Prop) : Prop := ∃ B, (∀ b, B b → ¬ X b) ∧ Gives p f lb B n xs w
/-- Known: a function that only reads. -/
def pureK (p : Program) (fv : Value) (fx : List SV → Option SV) (w : World) (X : Nat → Prop) : Prop :=
  ∃ B, (∀ b, B b → ¬ X b) ∧ ∀ args r, fx args = some r → ok 0 r ∧ ∀ ρ, PureAt p B fv (denL ρ args) (den ρ r) w
theorem keep_away {B X Y : Nat → Prop} {w0 w : World} (hBX : ∀ b, B b → ¬ X b) (hs : ∀ b, B b → b < w0.heap.size) (hk : Keep X w0 w) (hY : ∀ b, Y b → X b ∨ w0.heap.size ≤ b) : (∀ b, B b → ¬ Y b) ∧ ∀ b, B b → w.heap[b]? = w0.heap[b]? :=
  ⟨fun b hb hy => (hY b hy).elim (hBX b hb) fun h => by have := hs b hb; omega, fun b hb => hk.block b (hs b hb) (hBX b hb)⟩
theorem seqK.keep {p : Program} {f : FuncId} {lb : List Value} {n : Nat} {xs : Nat → Value} {w0 w : World} {X Y : Nat → Prop} (h : seqK p f lb n xs w0 X) (hk : Keep X w0 w) (hY : ∀ b, Y b → X b ∨ w0.heap.size ≤ b) : seqK p f lb n xs w Y := by
  obtain ⟨B, h1, h2⟩ := h
  obtain ⟨q1, q2⟩ := keep_away h1 h2.1 hk hY
  exact ⟨B, q1, h2.later hk.size q2⟩
theorem pureK.keep {p : Program} {fv : Value} {fx : List SV → Option SV} {w0 w : World} {X Y : Nat → Prop} (h : pureK p fv fx w0 X) (hs : ∃ a r, fx a = some r) (hk : Keep X w0 w) (hY : ∀ b, Y b → X b ∨ w0.heap.size ≤ b) : pureK p fv fx w Y := by
  obtain ⟨B, h1, h2⟩ := h
  obtain ⟨a, r, har⟩ := hs
  have hB : ∀ b, B b → b < w0.heap.size := by
    obtain ⟨_, _, _, _, h3, _⟩ := (h2 a r har).2 fun _ => ⟨0, 0, 0, true⟩
    exact h3
  obtain ⟨q1, q2⟩ := keep_away h1 hB hk hY
  exact ⟨B, q1, fun args r hr => ⟨(h2 args r hr).1, fun ρ => ((h2 args r hr).2 ρ).later hk.size q2⟩⟩

/-- A program of which a sequence is known. -/
@[reducible] def seqPr (p : Program) (f : FuncId) (lb : List Value) (n : Nat) (xs : Nat → Value) : Pr := ⟨p, seqK p f lb n xs, fun h hk hY => h.keep hk hY⟩
/-- And a function. -/
@[reducible] def seqfPr (p : Program) (f : FuncId) (lb : List Value) (n : Nat) (xs : Nat → Value) (fv : Value) (fx : List SV → Option SV) (hs : ∃ a r, fx a = some r) : Pr :=
  ⟨p, fun w X => seqK p f lb n xs w X ∧ pureK p fv fx w X, fun h hk hY => ⟨h.1.keep hk hY, h.2.keep hs hk hY⟩⟩

/-- A sequence, said in a symbolic heap: it reads the names qs (and what is known). -/
def SeqS (P : Pr) (qs : List Nat) (h : List Chunk) (sv : SV) (n : Nat) (xs : Nat → Value) : Prop :=
  ∀ ρ w X, P.know w X → (∀ k ∈ qs, Holds ρ w k (lookH h k) ∧ (Real ρ k (lookH h k) → (ρ k).b < w.heap.size)) →
    ∃ f lb B, den ρ sv = .func (.func f) #[] ⟨lb⟩ ∧ Gives P.p f lb B n xs w ∧ ∀ b, B b → ¬ X b ∨ ∃ k ∈ qs, Real ρ k (lookH h k) ∧ (ρ k).b = b
/-- A function that only reads, said so. -/
def FunS (P : Pr) (qs : List Nat) (h : List Chunk) (sv : SV) (fx : List SV → Option SV) : Prop :=
  ∀ ρ w X, P.know w X → (∀ k ∈ qs, Holds ρ w k (lookH h k) ∧ (Real ρ k (lookH h k) → (ρ k).b < w.heap.size)) →
    ∃ f lb B, den ρ sv = .func (.func f) #[] ⟨lb⟩ ∧ (∀ b, B b → b < w.heap.size) ∧ (∀ args r, fx args = some r → ok 0 r ∧ ∀ ρ, PureAt P.p B (.func (.func f) #[] ⟨lb⟩) (denL ρ args) (den ρ r) w) ∧ ∀ b, B b → ¬ X b ∨ ∃ k ∈ qs, Real ρ k (lookH h k) ∧ (ρ k).b = b
theorem PureAt.wider {p : Program} {B B' : Nat → Prop} {fv : Value} {a : List Value} {r : Value} {w : World} (h : PureAt p B fv a r w) (hB : ∀ b, B b → B' b) (hs : ∀ b, B' b → b < w.heap.size) : PureAt p B' fv a r w := by
  obtain ⟨f, cap, h1, h2, h3, h4⟩ := h
  exact ⟨f, cap, h1, h2, hs, fun F m W hF hr hs' hb' => h4 F m W hF hr hs' fun b hB' => hb' b (hB b hB')⟩
theorem SeqS.mono {P : Pr} {qs qs' : List Nat} {h h' : List Chunk} {sv : SV} {n : Nat} {xs : Nat → Value} (hs : SeqS P qs h sv n xs) (hq : ∀ k ∈ qs, k ∈ qs' ∧ (∀ ρ w, Holds ρ w k (lookH h' k) → Holds ρ w k (lookH h k)) ∧ (lookH h' k).live = (lookH h k).live) : SeqS P qs' h' sv n xs := fun ρ w X hk hH => by
  obtain ⟨f, lb, B, h1, h2, h3⟩ := hs ρ w X hk fun k hkq => by
    obtain ⟨q1, q2, q3⟩ := hq k hkq
    have h4 := hH k q1
    exact ⟨q2 _ _ h4.1, fun hR => h4.2 ⟨by rw [q3]; exact hR.1, hR.2⟩⟩
  refine ⟨f, lb, B, h1, h2, fun b hb => (h3 b hb).imp id fun ⟨k, hkq, hR, he⟩ => ?_⟩
  obtain ⟨q1, q2, q3⟩ := hq k hkq
  exact ⟨k, q1, ⟨by rw [q3]; exact hR.1, hR.2⟩, he⟩
theorem SeqS.cong {P : Pr} {qs : List Nat} {h : List Chunk} {sv : SV} {n n' : Nat} {xs xs' : Nat → Value} (hs : SeqS P qs h sv n xs) (hn : n = n') (hx : ∀ i, i < n → xs i = xs' i) : SeqS P qs h sv n' xs' := fun ρ w X hk hH => by
  obtain ⟨f, lb, B, h1, h2, h3⟩ := hs ρ w X hk hH
  exact ⟨f, lb, B, h1, h2.cong hn hx, h3⟩
theorem hold_cell {ρ ρ' : Env} {w : World} {k k' : Nat} {wr : Bool} {sv sv' : SV} (h : Holds ρ w k (.cells wr [sv])) (he : ρ' k' = ρ k) (hv : den ρ' sv' = den ρ sv) : Holds ρ' w k' (.cells false [sv']) := by
  simp only [Holds, denC, he, hv] at h ⊢
  exact ⟨h.1, h.2.1, fun hx => by cases hx⟩
/-- A sequence that is known. -/
theorem seqS_known {p : Program} {f : FuncId} {lb : List Value} {n : Nat} {xs : Nat → Value} (qs : List Nat) (h : List Chunk) : SeqS (seqPr p f lb n xs) qs h (.v (.func (.func f) #[] ⟨lb⟩)) n xs := fun ρ w X hk _ =>
  let ⟨B, h1, h2⟩ := hk
  ⟨f, lb, B, rfl, h2, fun b hb => .inl (h1 b hb)⟩
theorem seqS_known2 {p : Program} {f : FuncId} {lb : List Value} {n : Nat} {xs : Nat → Value} {fv : Value} {fx : List SV → Option SV} {hs : ∃ a r, fx a = some r} (qs : List Nat) (h : List Chunk) : SeqS (seqfPr p f lb n xs fv fx hs) qs h (.v (.func (.func f) #[] ⟨lb⟩)) n xs := fun ρ w X hk _ =>
  let ⟨B, h1, h2⟩ := hk.1
  ⟨f, lb, B, rfl, h2, fun b hb => .inl (h1 b hb)⟩
/-- A nil slice may have a name; the other names are dropped. -/
theorem intoR_nilT {nf : Nat} {h : List Chunk} {K : Tok → SV → List Chunk → Prop} {s : Nat} {f : Nat → SV} (H : List Chunk) (hH : H ++ h.drop nf = h) (hl : H.length = nf) (hg : goodH nf H) (hk : K .mk (.osl nf 0 0 s 0) (H ++ [.row true 0 s f])) : IntoR nf (.v (.slice none 0 0)) h K := fun C ρ w hC hM hok => by
  obtain ⟨ρ1, v1, H1, ⟨e1, e2⟩, hM1, ho1, hd1, hl1⟩ := intoR_take (K := fun _ v' h' => v' = .v (.slice none 0 0) ∧ h' = H) H hH hl hg (v := .v (.slice none 0 0)) trivial ⟨rfl, rfl⟩ C ρ w hC hM hok
  subst e1 e2
  obtain ⟨ρ2, v2, H2, hk2, hM2, ho2, hd2, hl2⟩ := intoR_nil (K := K) (s := s) (f := f) (nf := H1.length) (Nat.le_refl _) (by rw [hl]; exact hk) C ρ1 w (by omega) hM1 ho1
  exact ⟨ρ2, v2, H2, hk2, hM2, ho2, hd1.trans hd2, by omega⟩
theorem intoY_refl {nf : Nat} {t : Slots} {h : List Chunk} {J : Slots → List Chunk → Prop} (hJ : J t h) : IntoY nf t h J := fun d => into_refl ⟨rfl, hJ⟩
/-- A slice that came in: nil, or not. -/
theorem callP_osl1 {P : Pr} {f : FuncId} {n q s : Nat} {A : Nat → SV} {K : Tok → SV → List Chunk → Prop} (hnq : n ≤ q) (hnil : n = 0 → callP P f [.v (.slice none 0 0)] [.row false q s A] K)
    (hsl : ∀ cap, callP P f [.sl 0 0 0 s n cap] [.cells false [.fam q s A]] fun _ v h' => ∃ rest, h' = .cells false [.fam q s A] :: rest ∧ K .mk v (.row false q s A :: rest)) : callP P f [.osl 0 0 0 s n] [.row false q s A] K := by
  intro C ρ w hk hM hok
  have hh := hM.holds 0 _ rfl
  have hg := hM.okc 0 _ rfl
  by_cases hn : (ρ 0).nil = true
  · simp only [Holds, hn, if_true] at hh
    have hn0 : n = 0 := by omega
    have hd : denL ρ [.osl 0 0 0 s n] = denL ρ [.v (.slice none 0 0)] := by simp [denL, den, hn, hn0, hh.2]
    rw [hd]
    exact hnil hn0 C ρ w hk hM ⟨trivial, trivial⟩
  · have hn' : (ρ 0).nil = false := by simpa using hn
    simp only [Holds, hn', Bool.false_eq_true, if_false] at hh
    have hd : denL ρ [.osl 0 0 0 s n] = denL ρ [.sl 0 0 0 s n (ρ 0).c] := by simp [denL, den, hn']
    rw [hd]
    have hcell : ∀ (ρ' : Env) (w' : World), denC ρ' [.fam q s A] = (den ρ' (.fam q s A)).cells.toList := fun ρ' w' => by simp [denC]
    have hM2 : Models C ρ [.cells false [.fam q s A]] w := by
      refine ⟨hM.keep, hM.agree, hM.len, fun k c hc => ?_, fun k c hc => ?_, fun k c hc hR => ?_, fun k c hc hR => ?_, fun k k' c c' hc hc' hne hR hR' => ?_⟩
      · rcases k with _ | k
        · cases hc
          exact ⟨hn', by rw [hcell ρ w]; exact hh.1, fun h => by cases h⟩
        · simp at hc
      · rcases k with _ | k
        · cases hc
          exact ⟨⟨hg.1, trivial⟩, hg.2, trivial⟩
        · simp at hc
      · rcases k with _ | k
        · cases hc
          exact hM.size 0 _ rfl ⟨rfl, hn'⟩
        · simp at hc
      · rcases k with _ | k
        · cases hc
          cases hR.1
        · simp at hc
      · rcases k with _ | k
        · cases hc
          cases hR.1
        · simp at hc
    have back : ∀ ρ' w' rest, Models C ρ' (.cells false [.fam q s A] :: rest) w' → Agree 1 ρ ρ' → Models C ρ' (.row false q s A :: rest) w' := by
      intro ρ' w' rest hm ha
      have h0 : ρ' 0 = ρ 0 := ha 0 (by omega)
      have hn2 : (ρ' 0).nil = false := by rw [h0]; exact hn'
      refine ⟨hm.keep, hm.agree, hm.len, fun k c hc => ?_, fun k c hc => ?_, fun k c hc hR => ?_, fun k c hc hR => ?_, fun k k' c c' hc hc' hne hR hR' => ?_⟩
      · rcases k with _ | k
        · cases hc
          have h1 := (hm.holds 0 _ rfl).2.1
          rw [hcell ρ' w'] at h1
          simp only [Holds, hn2, Bool.false_eq_true, if_false]
          exact ⟨h1, by rw [h0]; exact hh.2.1, fun h => by cases h⟩
        · exact hm.holds (k + 1) c hc
      · rcases k with _ | k
        · cases hc
          have := hm.okc 0 _ rfl
          exact ⟨this.1.1, this.2.1⟩
        · exact hm.okc (k + 1) c hc
      · rcases k with _ | k
        · cases hc
          exact hm.size 0 _ rfl ⟨rfl, hR.2⟩
        · exact hm.size (k + 1) c hc hR
      · rcases k with _ | k
        · cases hc
          cases hR.1
        · exact hm.wr (k + 1) c hc hR
      · rcases k with _ | k
        · cases hc
          cases hR.1
        · rcases k' with _ | k'
          · cases hc'
            exact hm.sep (k + 1) 0 c _ hc rfl hne hR ⟨rfl, hR'.2⟩
          · exact hm.sep (k + 1) (k' + 1) c c' hc hc' hne hR hR'
    rcases hsl (ρ 0).c C ρ w hk hM2 ⟨by simp [ok], trivial⟩ with ⟨w', ρ', sv, h', h1, ⟨rest, rfl, h2⟩, h3, h4, h5, h6⟩ | ⟨h1, h2⟩
    · exact .inl ⟨w', ρ', sv, _, h1, h2, back _ _ _ h3 h4, h4, h5, h6⟩
    · refine .inr ⟨h1, fun F n hF hro => (h2 F n hF hro).mono ?_⟩
      rintro e w' ⟨ρ', sv, h', rfl, ⟨rest, rfl, q2⟩, q3, q4, q5, q6⟩
      exact ⟨ρ', sv, _, rfl, q2, back _ _ _ q3 q4, q4, q5, q6⟩
end Go.Sx
