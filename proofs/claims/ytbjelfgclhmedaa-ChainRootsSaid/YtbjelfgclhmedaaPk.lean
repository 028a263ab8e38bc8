/- Rows of bytes that came in, as knowledge of a walk's start. No condition. -/
import Derived.Test.YtbjelfgclhmedaaPc
set_option linter.all false
namespace Go.Sx
open Go.RowKit Go.WideShapes Go.ChangeShapes

theorem rowsKnow_keep {n : Nat} {V : Nat → Value} {Q : Nat → Pc} {w0 w : World} {X Y : Nat → Prop} (h : rowsKnow n V Q w0 X) (hk : Keep X w0 w) (hY : ∀ b, Y b → X b ∨ w0.heap.size ≤ b) : rowsKnow n V Q w Y := fun i hi => by
  obtain ⟨pl, h1, h2, h3⟩ := h i hi
  refine ⟨pl, fun ρ k hρ => ⟨(h1 ρ k hρ).1, holds_block (fun hn => ?_) (h1 ρ k hρ).2⟩, fun hn => Nat.lt_of_lt_of_le (h2 hn) hk.size, fun hn hy => ?_⟩
  · rw [hρ] at hn ⊢
    exact hk.block _ (h2 hn) (h3 hn)
  · rcases hY _ hy with h4 | h4
    · exact h3 hn h4
    · have := h2 hn
      omega

/-- The program, where rows of bytes that came in are known. -/
@[reducible] def rk (P : Program) (n : Nat) (V : Nat → Value) (Q : Nat → Pc) : Pr := ⟨P, rowsKnow n V Q, fun h hk hY => rowsKnow_keep h hk hY⟩

theorem rowsKnow_len {n : Nat} {V : Nat → Value} {Q : Nat → Pc} {w : World} {X : Nat → Prop} (h : rowsKnow n V Q w X) {i : Nat} (hi : i < n) : ∃ a c, V i = .slice a (Q i).len c := by
  obtain ⟨pl, h1, _⟩ := h i hi
  have h2 := (h1 (fun _ => pl) 0 rfl).1
  cases hq : Q i with
  | row len B => rw [hq] at h2; simp only [Pc.sv, den] at h2; exact ⟨_, _, h2⟩
  | arr len B => rw [hq] at h2; simp only [Pc.sv, den] at h2; exact ⟨_, _, h2⟩
  | nil a c => rw [hq] at h2; simp only [Pc.sv, den] at h2; exact ⟨_, _, h2⟩

theorem Models.focusC {C : Ctx} {ρ : Env} {H : List Chunk} {w : World} (hM : Models C ρ H w) {pl : Place} {c : Chunk} (hw : c.wr = false) (hX : pl.nil = false → ¬ C.X pl.b) (hlt : pl.nil = false → pl.b < C.w0.heap.size)
    (hh : ∀ ρ k, ρ k = pl → Holds ρ C.w0 k c) (hg : c.good 0) : Models C (upd ρ H.length pl) (H ++ [c]) w := by
  have ha := agree_upd ρ H.length pl
  have hg1 : Chunk.good (H.length + 1) c := good_mono (Nat.zero_le _) hg
  refine ⟨hM.keep, fun k hk => (ha k (Nat.lt_of_lt_of_le hk hM.len)).trans (hM.agree k hk), by have := hM.len; simp; omega, ?_, ?_, ?_, ?_, ?_⟩
  · intro k c hc
    rcases append_get hc with h1 | ⟨rfl, rfl⟩
    · exact holds_agree ha (get_lt h1) (hM.okc k c h1) (hM.holds k c h1)
    · have h2 := hh (upd ρ H.length pl) H.length (upd_self _ _ _)
      refine holds_block (fun hn => ?_) h2
      rw [upd_self] at hn ⊢
      exact hM.keep.block _ (hlt hn) (hX hn)
  · intro k c hc
    rcases append_get hc with h1 | ⟨rfl, rfl⟩
    · exact good_mono (by simp) (hM.okc k c h1)
    · simpa using hg1
  · intro k c hc hr
    rcases append_get hc with h1 | ⟨rfl, rfl⟩
    · rw [ha k (get_lt h1)]; exact hM.size k c h1 (real_agree ha (get_lt h1) hr)
    · have hn := hr.2
      rw [upd_self] at hn ⊢
      exact Nat.lt_of_lt_of_le (hlt hn) hM.keep.size
  · intro k c hc hr
    rcases append_get hc with h1 | ⟨rfl, rfl⟩
    · rw [ha k (get_lt h1)]; exact hM.wr k c h1 (realW_agree ha (get_lt h1) hr)
    · exact absurd hr.1 (by simp [hw])
  · intro k k' c1 c2 h1 h2 hne hw1 hl
    rcases append_get h1 with q1 | ⟨rfl, rfl⟩
    · rcases append_get h2 with q2 | ⟨rfl, rfl⟩
      · rw [ha k (get_lt q1), ha k' (get_lt q2)]; exact hM.sep k k' c1 c2 q1 q2 hne (realW_agree ha (get_lt q1) hw1) (real_agree ha (get_lt q2) hl)
      · have hn := hl.2
        rw [upd_self] at hn
        rw [ha k (get_lt q1), upd_self]
        intro e
        have h3 := (hM.wr k c1 q1 (realW_agree ha (get_lt q1) hw1)).resolve_left (by rw [e]; exact hX hn)
        have h4 := hlt hn
        omega
    · exact absurd hw1.1 (by simp [hw])

/-- The row that a slot holds gets a name. -/
theorem focusPc {n : Nat} {V : Nat → Value} {Q : Nat → Pc} {C : Ctx} {t : Slots} {h : List Chunk} {J : Tok → St → Prop} (hkn : rowsKnow n V Q C.w0 C.X) (i k : Nat) (hk : k < n) (hi : i < t.n) (hx : slot t i = .v (V k))
    (hJ : J .mk ⟨⟨t.n, (i, (Q k).sv h.length) :: t.l, t.j⟩, h ++ [(Q k).ch], []⟩) : IntoA C ⟨t, h, []⟩ J := by
  intro ρ w hM hok
  obtain ⟨pl, h1, h2, h3⟩ := hkn k hk
  have ha := agree_upd ρ h.length pl
  refine ⟨upd ρ h.length pl, _, hJ, hM.focusC (Pc.wr_ch _) h3 h2 (fun ρ k hk => (h1 ρ k hk).2) (by rw [Pc.good_ch]; trivial), ?_, ?_⟩
  · have h1 := okS_mono (show h.length ≤ (h ++ [(Q k).ch]).length by simp) hok
    have h2 := okS_put (d := i) (v := (Q k).sv h.length) h1 (by rw [Pc.ok_sv _ (by simp)]; trivial)
    unfold putS at h2
    rw [if_pos hi] at h2
    exact h2
  · simp only [act]
    congr 1
    congr 1
    unfold tmpsD
    apply List.map_congr_left
    intro j hj
    rw [List.mem_range] at hj
    show den ρ (slot t j) = den (upd ρ h.length pl) (lkL ((i, (Q k).sv h.length) :: t.l) t.j j)
    simp only [lkL]
    split
    · rename_i e
      rw [← e, hx]
      exact (h1 (upd ρ h.length pl) h.length (upd_self _ _ _)).1
    · exact (den_agree ha _ (ok_slot t j hok)).symm

/-- The start, where what came in may be read only. -/
theorem models_ro {ρ : Env} {W : World} {H : List Chunk} (hh : ∀ k c, H[k]? = some c → c.wr = false ∧ Holds ρ W k c ∧ c.good H.length ∧ ((ρ k).nil = false → (ρ k).b < W.heap.size)) : Models (Ctx.start W ρ H.length) ρ H W where
  keep := Keep.refl _ _
  agree := fun _ _ => rfl
  len := Nat.le_refl _
  holds := fun k c h => (hh k c h).2.1
  okc := fun k c h => (hh k c h).2.2.1
  size := fun k c h hr => (hh k c h).2.2.2 hr.2
  wr := fun k c h hr => absurd hr.1 (by simp [(hh k c h).1])
  sep := fun k k' c c' h h' hne hr _ => absurd hr.1 (by simp [(hh k c h).1])

theorem calls_of_callPK {P : Pr} {f : FuncId} {fn : Func} {c : Code} (hf : P.p.funcs[f]? = some fn) (hname : (fn.name == "runtime.NumGoroutine") = false) (hb : fn.body = some c) {args : List SV} {h : List Chunk} {ρ : Env} {w : World} {b : Bool}
    (hkn : P.know w fun _ => False) (hM : Models (Ctx.start w ρ h.length) ρ h w) (ha : okL h.length args) (hc : callP P f args h fun _ v _ => v = .bool b) :
    Calls P.p f (denL ρ args).toArray w fun e w' => e = .returned (.bool b) ∧ Below w.heap.size w w' := by
  have h1 : fn.name ≠ "runtime.NumGoroutine" := by simpa using hname
  rcases hc _ ρ w hkn hM ha with ⟨w', ρ', sv, h', hr, _⟩ | ⟨_, h2⟩
  · simp [callFunc, hf, h1, hb] at hr
  · refine callsIn_wide.1 ((h2 Fence.wide 0 ⟨fun _ => trivial, rfl⟩ rfl).mono fun e w' => ?_)
    rintro ⟨ρ', sv, h', rfl, rfl, hM', _⟩
    exact ⟨rfl, hM'.keep.os, hM'.keep.tape, hM'.keep.output, hM'.keep.size, fun k hk => hM'.keep.block k hk fun h => h⟩

/-- Rows opened are rows known. -/
theorem rowsKnow_of_brow {W : World} {n : Nat} {V : Nat → Value} {len : Nat → Nat} {B : Nat → Nat → BitVec 8} (h : ∀ i, i < n → BRow W (V i) (len i) (B i)) : ∃ Q : Nat → Pc, rowsKnow n V Q W (fun _ => False) := by
  have key : ∀ i, i < n → ∃ q : Pc, ∃ pl : Place, (∀ ρ k, ρ k = pl → V i = den ρ (q.sv k) ∧ Holds ρ W k q.ch) ∧ (pl.nil = false → pl.b < W.heap.size) := fun i hi => by
    rcases h i hi with ⟨pl, h1, h2⟩ | ⟨h0, a, c, hv⟩
    · exact ⟨.row (len i) (B i), pl, h1, h2⟩
    · exact ⟨.nil a c, ⟨0, 0, 0, true⟩, fun ρ k hk => ⟨by rw [hv]; rfl, by simp [Pc.ch, Holds, hk]⟩, by simp⟩
  haveI : Inhabited Pc := ⟨.nil none 0⟩
  obtain ⟨Q, hQ⟩ := Go.Deep.choose_lt key
  exact ⟨Q, fun i hi => by obtain ⟨pl, h1, h2⟩ := hQ i hi; exact ⟨pl, h1, h2, fun _ h => h⟩⟩
end Go.Sx
