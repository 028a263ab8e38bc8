/- The law GenChains returns true for every input, and each argument reads afterwards as it did. No condition. -/
import Derived.Test.YtloinbebkhcndaaRows
import Derived.Test.YtloinbebkhcndaaV18
import Derived.Test.YtloinbebkhcndaaSxt
import Derived.Test.YtloinbebkhcndaaOnes
import Derived.WalkKit
import Derived.ProofKit
import Derived.OpenShut
import Derived.ShutString
import Derived.ChangeOld
import Derived.Below
set_option linter.all false
namespace Go.Proofs.Ytloinbebkhcndaa
open Go.ChangeShapes Go.WideShapes Go.ChangeAt Go.RowKit
open Go.ChangeMaps (open_string shut_string)
open Go.Sx

theorem try_own : ownKnob Try.prog.godebug = none := by kernel_rfl
theorem try_laidOut : laidOutB Try.prog = true := by kernel_rfl

theorem genChains_walk (v0 : Value) (pl0 : Sx.Place) (n0 : Nat) (S0 : Nat → Int) (v1 : Value) (pl1 : Sx.Place) (n1 : Nat) (S1 : Nat → Int) (v2 : Value) (pl2 : Sx.Place) (n2 : Nat) (S2 : Nat → Int) (w : World)
    (hD0 : ∀ ρ k, ρ k = pl0 → v0 = den ρ (.osl k 0 0 1 n0) ∧ Holds ρ w k (.row false n0 1 fun i => .int .i64 (S0 i))) (hlt0 : pl0.nil = false → pl0.b < w.heap.size) (hn0 : n0 ≤ 9223372036854775807) (hD1 : ∀ ρ k, ρ k = pl1 → v1 = den ρ (.osl k 0 0 1 n1) ∧ Holds ρ w k (.row false n1 1 fun i => .int .i64 (S1 i))) (hlt1 : pl1.nil = false → pl1.b < w.heap.size) (hn1 : n1 ≤ 9223372036854775807) (hD2 : ∀ ρ k, ρ k = pl2 → v2 = den ρ (.osl k 0 0 1 n2) ∧ Holds ρ w k (.row false n2 1 fun i => .int .i64 (S2 i))) (hlt2 : pl2.nil = false → pl2.b < w.heap.size) (hn2 : n2 ≤ 9223372036854775807) :
    Calls Try.prog 8 #[v0, v1, v2] w fun e w' => e = .returned (.bool true) ∧ Below w.heap.size w w' := by
  obtain ⟨ρ, r0, r1, r2⟩ : ∃ ρ : Env, ρ 0 = pl0 ∧ ρ 1 = pl1 ∧ ρ 2 = pl2 := ⟨fun k => match k with | 0 => pl0 | 1 => pl1 | 2 => pl2 | _ => ⟨0, 0, 0, true⟩, rfl, rfl, rfl⟩
  have h := calls_of_callPK (P := Pr.of Try.prog) (h := [.row false n0 1 fun i => .int .i64 (S0 i), .row false n1 1 fun i => .int .i64 (S1 i), .row false n2 1 fun i => .int .i64 (S2 i)]) (ρ := ρ) (w := w) Try.func8 (by kernel_rfl) rfl trivial
    (models_ro (by
      intro k c hc
      rcases k with _ | _ | _ | k
      · cases hc
        exact ⟨rfl, (hD0 _ 0 r0).2, ⟨fun i _ => ⟨rfl, by simp [ok]⟩, fun i _ => by simp [stor]⟩, by rw [r0]; exact hlt0⟩
      · cases hc
        exact ⟨rfl, (hD1 _ 1 r1).2, ⟨fun i _ => ⟨rfl, by simp [ok]⟩, fun i _ => by simp [stor]⟩, by rw [r1]; exact hlt1⟩
      · cases hc
        exact ⟨rfl, (hD2 _ 2 r2).2, ⟨fun i _ => ⟨rfl, by simp [ok]⟩, fun i _ => by simp [stor]⟩, by rw [r2]; exact hlt2⟩
      · simp at hc)) (args := [.osl 0 0 0 1 n0, .osl 1 0 0 1 n1, .osl 2 0 0 1 n2]) (by simp [okL, ok, sz]) (c8l n0 hn0 S0 n1 hn1 S1 n2 hn2 S2 _ fun _ => rfl)
  rw [(hD0 ρ 0 r0).1, (hD1 ρ 1 r1).1, (hD2 ρ 2 r2).1]
  exact h

set_option maxRecDepth 100000 in
theorem genChains_lifted (os : Os) (started : os.Started) (H : Type) (enc : TypeId × Value → H) :
    ReturnsInHanded {} Try.checked os 8 .any (Rows.genChainsSpec.pre6 enc Try.prog Try.f8 Rows.genChainsRow.domain false) (Rows.genChainsSpec.post enc Try.prog Try.f8 false true false false) := by
  refine returnsInHanded_of_change (C := Try.checked) try_own started (by kernel_rfl) Try.func8
    (ChangeSpec.witness6 (enc := enc) (C := Try.checked) false ⟨#[], #[.slice none 0 0, .slice none 0 0, .slice none 0 0], []⟩ 8 (by kernel_rfl) (by kernel_rfl) (by kernel_rfl) (by kernel_rfl)) ?_
  intro W base args ds gs before hval0 hW hcnd _
  have hval : ∀ (j : Nat) t v, Try.f8.params[j]? = some t → args[j]? = some v → Value.okWide Try.prog W .any base t v := hval0
  have hW' := hW
  obtain ⟨p, q, hA0, hV, rfl, hfz, hnd⟩ := hW
  have hA : DataW.TrodAll enc Try.prog W 0 (fun _ => true) true Try.f8.params.toList args.toList ds p := hA0
  rw [Try.params8] at hA hval
  obtain ⟨v0, vs0, d0, ds0, p0, q0, hargs, rfl, rfl, h0, r0⟩ := trodAll_cons hA
  obtain ⟨v1, vs1, d1, ds1, p1, q1, rfl, rfl, rfl, h1, r1⟩ := trodAll_cons r0
  obtain ⟨v2, vs2, d2, ds2, p2, q2, rfl, rfl, rfl, h2, r2⟩ := trodAll_cons r1
  obtain ⟨rfl, rfl, rfl⟩ := trodAll_nil r2
  obtain rfl : args = #[v0, v1, v2] := by cases args; simp_all
  obtain ⟨rfl, rfl⟩ := trodVars_none hV
  have k0 := h0
  have lt0 : ∀ x ∈ p0, x.block < W.heap.size := by obtain ⟨m, hm⟩ := k0; exact DataW.trod_lt m _ _ _ hm
  obtain ⟨pl0, n0, S0, hD0, hlt0, hn0⟩ := open_nums Try.underlying25 (hval 0 25 v0 rfl rfl) h0
  have k1 := h1
  have lt1 : ∀ x ∈ p1, x.block < W.heap.size := by obtain ⟨m, hm⟩ := k1; exact DataW.trod_lt m _ _ _ hm
  obtain ⟨pl1, n1, S1, hD1, hlt1, hn1⟩ := open_nums Try.underlying25 (hval 1 25 v1 rfl rfl) h1
  have k2 := h2
  have lt2 : ∀ x ∈ p2, x.block < W.heap.size := by obtain ⟨m, hm⟩ := k2; exact DataW.trod_lt m _ _ _ hm
  obtain ⟨pl2, n2, S2, hD2, hlt2, hn2⟩ := open_nums Try.underlying25 (hval 2 25 v2 rfl rfl) h2
  clear hA0 hval0
  refine (genChains_walk v0 pl0 n0 S0 v1 pl1 n1 S1 v2 pl2 n2 S2 W hD0 hlt0 hn0 hD1 hlt1 hn1 hD2 hlt2 hn2).mono fun e W' ⟨he, bel⟩ => ?_
  subst he
  exact ⟨_, rfl, _, _, _, [], _, [], hW', trodAll_mk1 (shut_bool Try.underlying4 _), (trodAll_cons_mk (Below.trod try_laidOut (by kernel_rfl) (of_decide_eq_true (by kernel_rfl)) k0 bel lt0) (trodAll_cons_mk (Below.trod try_laidOut (by kernel_rfl) (of_decide_eq_true (by kernel_rfl)) k1 bel lt1) (trodAll_cons_mk (Below.trod try_laidOut (by kernel_rfl) (of_decide_eq_true (by kernel_rfl)) k2 bel lt2) trodAll_mk0))), rfl, bel.frame _, fun h => by cases h⟩
theorem genChains_over : Rows.genChainsRow.holds Try.pinned (OpenSpec.ofChange Rows.genChainsSpec) :=
  OpenClaim.holds_of_wide 8 Try.f8 rfl rfl rfl rfl rfl rfl rfl ⟨rfl, rfl, rfl, rfl, rfl⟩ rfl rfl rfl rfl rfl (by kernel_rfl) Try.func8 (by kernel_rfl)
    (of_decide_eq_true (by kernel_rfl)) (by unfold Func.isWrapper; first | (rw [if_pos (by decide +kernel)]; kernel_rfl) | (rw [if_neg (by decide +kernel)]; exact ⟨rfl, rfl⟩))
    (fun os started H enc _ => genChains_lifted os started H enc)
/-- The statement. -/
theorem genChains_holds : Rows.GenChainsSaid := genChains_over
#print axioms genChains_holds
end Go.Proofs.Ytloinbebkhcndaa
