/- The law GenTables returns true for every input, and each argument reads afterwards as it did. No condition. -/
import Derived.Test.YtloinbebkhcndaaRows
import Derived.Test.YtloinbebkhcndaaMh
import Derived.Test.YtloinbebkhcndaaMb
import Derived.Test.YtloinbebkhcndaaMc
import Derived.WalkKit
import Derived.ProofKit
import Derived.OpenShut
import Derived.ShutString
import Derived.ChangeOld
import Derived.Below
set_option linter.all false
namespace Go.Proofs.Ytloinbebkhcndaa
open Go.ChangeShapes Go.WideShapes Go.ChangeAt Go.RowKit
open Go.ChangeMaps (open_string shut_string)
open Go.Sx

theorem try_own : ownKnob Try.prog.godebug = none := by kernel_rfl
theorem try_laidOut : laidOutB Try.prog = true := by kernel_rfl

theorem genTables_walk (v0 : Value) (pl0 : Sx.Place) (n0 : Nat) (S0 : Nat → OpA) (w : World)
    (hD0 : ∀ ρ k, ρ k = pl0 → v0 = den ρ (.osl k 0 0 3 n0) ∧ Holds ρ w k (.row false n0 3 fun i => (S0 i).v)) (hlt0 : pl0.nil = false → pl0.b < w.heap.size) (hn0 : n0 ≤ 9223372036854775807) :
    Calls Try.prog 13 #[v0] w fun e w' => e = .returned (.bool true) ∧ Below w.heap.size w w' := by
  obtain ⟨ρ, r0⟩ : ∃ ρ : Env, ρ 0 = pl0 := ⟨fun k => match k with | 0 => pl0 | _ => ⟨0, 0, 0, true⟩, rfl⟩
  have h := calls_of_callPK (P := Pr.of Try.prog) (h := [.row false n0 3 fun i => (S0 i).v]) (ρ := ρ) (w := w) Try.func13 (by kernel_rfl) rfl trivial
    (models_ro (by
      intro k c hc
      rcases k with _ | k
      · cases hc
        exact ⟨rfl, (hD0 _ 0 r0).2, ⟨fun i _ => ⟨rfl, by simp [ok, okL, OpA.v]⟩, fun i _ => by simp [stor, storL, OpA.v]⟩, by rw [r0]; exact hlt0⟩
      · simp at hc)) (args := [.osl 0 0 0 3 n0]) (by simp [okL, ok, sz]) (c13l n0 hn0 S0 _ fun _ => rfl)
  rw [(hD0 ρ 0 r0).1]
  exact h

set_option maxRecDepth 100000 in
theorem genTables_lifted (os : Os) (started : os.Started) (H : Type) (enc : TypeId × Value → H) :
    ReturnsInHanded {} Try.checked os 13 .any (Rows.genTablesSpec.pre6 enc Try.prog Try.f13 Rows.genTablesRow.domain false) (Rows.genTablesSpec.post enc Try.prog Try.f13 false true false false) := by
  refine returnsInHanded_of_change (C := Try.checked) try_own started (by kernel_rfl) Try.func13
    (ChangeSpec.witness6 (enc := enc) (C := Try.checked) false ⟨#[], #[.slice none 0 0], []⟩ 8 (by kernel_rfl) (by kernel_rfl) (by kernel_rfl) (by kernel_rfl)) ?_
  intro W base args ds gs before hval0 hW hcnd _
  have hval : ∀ (j : Nat) t v, Try.f13.params[j]? = some t → args[j]? = some v → Value.okWide Try.prog W .any base t v := hval0
  have hW' := hW
  obtain ⟨p, q, hA0, hV, rfl, hfz, hnd⟩ := hW
  have hA : DataW.TrodAll enc Try.prog W 0 (fun _ => true) true Try.f13.params.toList args.toList ds p := hA0
  rw [Try.params13] at hA hval
  obtain ⟨v0, vs0, d0, ds0, p0, q0, hargs, rfl, rfl, h0, r0⟩ := trodAll_cons hA
  obtain ⟨rfl, rfl, rfl⟩ := trodAll_nil r0
  obtain rfl : args = #[v0] := by cases args; simp_all
  obtain ⟨rfl, rfl⟩ := trodVars_none hV
  have k0 := h0
  have lt0 : ∀ x ∈ p0, x.block < W.heap.size := by obtain ⟨m, hm⟩ := k0; exact DataW.trod_lt m _ _ _ hm
  obtain ⟨pl0, n0, S0, hD0, hlt0, hn0⟩ := open_ops (hval 0 51 v0 rfl rfl) h0
  clear hA0 hval0
  refine (genTables_walk v0 pl0 n0 S0 W hD0 hlt0 hn0).mono fun e W' ⟨he, bel⟩ => ?_
  subst he
  exact ⟨_, rfl, _, _, _, [], _, [], hW', trodAll_mk1 (shut_bool Try.underlying4 _), (trodAll_cons_mk (Below.trod try_laidOut (by kernel_rfl) (of_decide_eq_true (by kernel_rfl)) k0 bel lt0) trodAll_mk0), rfl, bel.frame _, fun h => by cases h⟩
theorem genTables_over : Rows.genTablesRow.holds Try.pinned (OpenSpec.ofChange Rows.genTablesSpec) :=
  OpenClaim.holds_of_wide 13 Try.f13 rfl rfl rfl rfl rfl rfl rfl ⟨rfl, rfl, rfl, rfl, rfl⟩ rfl rfl rfl rfl rfl (by kernel_rfl) Try.func13 (by kernel_rfl)
    (of_decide_eq_true (by kernel_rfl)) (by unfold Func.isWrapper; first | (rw [if_pos (by decide +kernel)]; kernel_rfl) | (rw [if_neg (by decide +kernel)]; exact ⟨rfl, rfl⟩))
    (fun os started H enc _ => genTables_lifted os started H enc)
/-- The statement. -/
theorem genTables_holds : Rows.GenTablesSaid := genTables_over
#print axioms genTables_holds
end Go.Proofs.Ytloinbebkhcndaa
