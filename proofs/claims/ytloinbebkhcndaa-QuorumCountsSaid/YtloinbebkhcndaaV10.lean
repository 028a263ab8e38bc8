/- Contracts of functions that the laws reach, by the symbolic executor of the texts Sxa to Syg. No condition. -/
import Derived.Test.YtloinbebkhcndaaV9
set_option linter.all false
set_option maxRecDepth 40000
namespace Go.Proofs.Ytloinbebkhcndaa
open Go Go.Sx

theorem lkL_map (ρ : Env) (j : Nat → Value) : ∀ (l l' : List (Nat × SV)), (l'.map fun p => (p.1, den ρ p.2)) = (l.map fun p => (p.1, den ρ p.2)) → ∀ i, den ρ (lkL l' j i) = den ρ (lkL l j i)
  | [], [], _, _ => rfl
  | [], _ :: _, h, _ => by simp at h
  | _ :: _, [], h, _ => by simp at h
  | (k, v) :: l, (k', v') :: l', h, i => by
    simp only [List.map_cons, List.cons.injEq, Prod.mk.injEq] at h
    obtain ⟨⟨rfl, h1⟩, h2⟩ := h
    simp only [lkL]
    split
    · exact h1
    · exact lkL_map ρ j l l' h2 i
/-- Nil slices in slots may have a name. -/
theorem into_nil {nf n : Nat} {l : List (Nat × SV)} {j : Nat → Value} {h : List Chunk} {d : List Deferred} {J : St → Prop} (l' : List (Nat × SV)) (s : Nat) (f : Nat → SV)
    (hl : ∀ ρ : Env, ρ h.length = ⟨0, 0, 0, true⟩ → (l'.map fun p => (p.1, den ρ p.2)) = (l.map fun p => (p.1, den ρ p.2))) (ho : okE (h.length + 1) n l') (hJ : Into nf ⟨⟨n, l', j⟩, h ++ [.row true 0 s f], d⟩ J) : Into nf ⟨⟨n, l, j⟩, h, d⟩ J := fun C ρ w hC hM hok => by
  have hM1 : Models C (upd ρ h.length ⟨0, 0, 0, true⟩) (h ++ [.row true 0 s f]) w := hM.alloc (Keep.refl _ _) (fun h => by cases h) ⟨fun i hi => absurd hi (by omega), fun i hi => absurd hi (by omega)⟩ (by simp [Holds, upd])
  have ha : Agree h.length ρ (upd ρ h.length ⟨0, 0, 0, true⟩) := fun k hk => by simp [upd, show k ≠ h.length by omega]
  obtain ⟨ρ', st', h1, h2, h3, h4⟩ := hJ C _ w hC hM1 ⟨hok.1, by simpa using ho⟩
  refine ⟨ρ', st', h1, h2, h3, ?_⟩
  rw [← h4]
  have e : tmpsD ρ ⟨n, l, j⟩ = tmpsD (upd ρ h.length ⟨0, 0, 0, true⟩) ⟨n, l', j⟩ := by
    rw [← tmpsD_agree ha hok]
    unfold tmpsD
    apply List.map_congr_left
    intro i _
    exact (lkL_map _ j l l' (hl _ (by simp [upd])) i).symm
  simp only [act, e]
/-- A function that reads one cell, as a value. -/
theorem funS_cap1 {P : Pr} (hP : P.p = Try.prog) {g : FuncId} {fn : Func} {c : Code} {fx : List SV → Option SV} (hf : Try.prog.funcs[g]? = some fn) (hname : (fn.name == "runtime.NumGoroutine") = false) (hb : fn.body = some c) {s1 : SV} (hs1 : ∀ ρ ρ', den ρ' s1 = den ρ s1) (hgood : goodH 1 [.cells false [s1]])
    (hc : ∀ args r, fx args = some r → okL 0 args ∧ ok 0 r ∧ callP Try.prog g (args ++ [.ptr 0 0]) [.cells false [s1]] fun _ v _ => v = r) {qs : List Nat} {h : List Chunk} {k1 : Nat} {w1 : Bool} (h1 : lookH h k1 = .cells w1 [s1]) (m1 : k1 ∈ qs) : FunS P qs h (.fn (.func g) [] [.ptr k1 0]) fx := by
  intro ρ w X hk hH
  obtain ⟨ρ', B', e1, e2, e3, e4, e5⟩ := caps1 (B := fun _ => False) hH h1 m1 (fun b hb => hb.elim) (fun b hb => hb.elim) (s1' := s1) (fun ρ' => hs1 ρ ρ')
  refine ⟨g, denL ρ [.ptr k1 0], B', rfl, e3, fun args r har => ?_, e5⟩
  obtain ⟨o1, o2, o3⟩ := hc args r har
  refine ⟨o2, fun ρ2 => ?_⟩
  rw [hP, ← e1]
  have a1 : denL ρ2 args = denL ρ' args := denL_agree (n := 0) (fun k hk => absurd hk (by omega)) args o1
  have a2 : den ρ2 r = den ρ' r := den_agree (n := 0) (fun k hk => absurd hk (by omega)) r o2
  rw [a1, a2]
  exact pure_of_callP (p := Try.prog) hf hname hb (caps := [.ptr 0 0]) (h0 := [.cells false [s1]]) hgood (by simp [Chunk.wr]) (okL_append.2 ⟨okL_mono (Nat.zero_le _) _ o1, by simp [okL, ok]⟩) o2 o3 (ρ := ρ') e3 e4
end Go.Proofs.Ytloinbebkhcndaa
