/- The law GenStops returns true for every input, and each argument reads afterwards as it did. No condition. -/
import Derived.Test.YtloinbebkhcndaaRows
import Derived.Test.YtloinbebkhcndaaMf
import Derived.Test.YtloinbebkhcndaaMb
import Derived.Test.YtloinbebkhcndaaMd
import Derived.WalkKit
import Derived.ProofKit
import Derived.OpenShut
import Derived.ShutString
import Derived.ChangeOld
import Derived.Below
set_option linter.all false
namespace Go.Proofs.Ytloinbebkhcndaa
open Go.ChangeShapes Go.WideShapes Go.ChangeAt Go.RowKit
open Go.ChangeMaps (open_string shut_string)
open Go.Sx

theorem try_own : ownKnob Try.prog.godebug = none := by kernel_rfl
theorem try_laidOut : laidOutB Try.prog = true := by kernel_rfl

theorem genStops_walk (v0 : Value) (pl0 : Sx.Place) (n0 : Nat) (S0 : Nat → Int) (a1 : Int) (w1 : (Lit.int .i64 a1).wf = true) (w : World)
    (hD0 : ∀ ρ k, ρ k = pl0 → v0 = den ρ (.osl k 0 0 1 n0) ∧ Holds ρ w k (.row false n0 1 fun i => .int .i64 (S0 i))) (hlt0 : pl0.nil = false → pl0.b < w.heap.size) (hn0 : n0 ≤ 9223372036854775807) :
    Calls Try.prog 14 #[v0, .int .i64 a1] w fun e w' => e = .returned (.bool true) ∧ Below w.heap.size w w' := by
  obtain ⟨ρ, r0⟩ : ∃ ρ : Env, ρ 0 = pl0 := ⟨fun k => match k with | 0 => pl0 | _ => ⟨0, 0, 0, true⟩, rfl⟩
  have b1 : -9223372036854775808 ≤ a1 ∧ a1 ≤ 9223372036854775807 := by simpa [Lit.wf, IntKind.min, IntKind.max, IntKind.signed, IntKind.bits] using w1
  have h := calls_of_callPK (P := Pr.of Try.prog) (h := [.row false n0 1 fun i => .int .i64 (S0 i)]) (ρ := ρ) (w := w) Try.func14 (by kernel_rfl) rfl trivial
    (models_ro (by
      intro k c hc
      rcases k with _ | k
      · cases hc
        exact ⟨rfl, (hD0 _ 0 r0).2, ⟨fun i _ => ⟨rfl, by simp [ok]⟩, fun i _ => by simp [stor]⟩, by rw [r0]; exact hlt0⟩
      · simp at hc)) (args := [.osl 0 0 0 1 n0, .int .i64 a1]) (by simp [okL, ok, sz]) (c14l n0 hn0 S0 a1 b1 _ fun _ => rfl)
  rw [(hD0 ρ 0 r0).1]
  exact h

set_option maxRecDepth 100000 in
theorem genStops_lifted (os : Os) (started : os.Started) (H : Type) (enc : TypeId × Value → H) :
    ReturnsInHanded {} Try.checked os 14 .any (Rows.genStopsSpec.pre6 enc Try.prog Try.f14 Rows.genStopsRow.domain false) (Rows.genStopsSpec.post enc Try.prog Try.f14 false true false false) := by
  refine returnsInHanded_of_change (C := Try.checked) try_own started (by kernel_rfl) Try.func14
    (ChangeSpec.witness6 (enc := enc) (C := Try.checked) false ⟨#[], #[.slice none 0 0, .int .i64 0], []⟩ 8 (by kernel_rfl) (by kernel_rfl) (by kernel_rfl) (by kernel_rfl)) ?_
  intro W base args ds gs before hval0 hW hcnd _
  have hval : ∀ (j : Nat) t v, Try.f14.params[j]? = some t → args[j]? = some v → Value.okWide Try.prog W .any base t v := hval0
  have hW' := hW
  obtain ⟨p, q, hA0, hV, rfl, hfz, hnd⟩ := hW
  have hA : DataW.TrodAll enc Try.prog W 0 (fun _ => true) true Try.f14.params.toList args.toList ds p := hA0
  rw [Try.params14] at hA hval
  obtain ⟨v0, vs0, d0, ds0, p0, q0, hargs, rfl, rfl, h0, r0⟩ := trodAll_cons hA
  obtain ⟨v1, vs1, d1, ds1, p1, q1, rfl, rfl, rfl, h1, r1⟩ := trodAll_cons r0
  obtain ⟨rfl, rfl, rfl⟩ := trodAll_nil r1
  obtain rfl : args = #[v0, v1] := by cases args; simp_all
  obtain ⟨rfl, rfl⟩ := trodVars_none hV
  have k0 := h0
  have lt0 : ∀ x ∈ p0, x.block < W.heap.size := by obtain ⟨m, hm⟩ := k0; exact DataW.trod_lt m _ _ _ hm
  obtain ⟨pl0, n0, S0, hD0, hlt0, hn0⟩ := open_nums Try.underlying25 (hval 0 25 v0 rfl rfl) h0
  have k1 := h1
  have lt1 : ∀ x ∈ p1, x.block < W.heap.size := by obtain ⟨m, hm⟩ := k1; exact DataW.trod_lt m _ _ _ hm
  obtain ⟨a1, rfl, rfl, rfl, w1⟩ := open_int Try.underlying3 (hval 1 3 v1 rfl rfl) h1
  clear hA0 hval0
  refine (genStops_walk v0 pl0 n0 S0 a1 w1 W hD0 hlt0 hn0).mono fun e W' ⟨he, bel⟩ => ?_
  subst he
  exact ⟨_, rfl, _, _, _, [], _, [], hW', trodAll_mk1 (shut_bool Try.underlying4 _), (trodAll_cons_mk (Below.trod try_laidOut (by kernel_rfl) (of_decide_eq_true (by kernel_rfl)) k0 bel lt0) (trodAll_cons_mk (Below.trod try_laidOut (by kernel_rfl) (of_decide_eq_true (by kernel_rfl)) k1 bel lt1) trodAll_mk0)), rfl, bel.frame _, fun h => by cases h⟩
theorem genStops_over : Rows.genStopsRow.holds Try.pinned (OpenSpec.ofChange Rows.genStopsSpec) :=
  OpenClaim.holds_of_wide 14 Try.f14 rfl rfl rfl rfl rfl rfl rfl ⟨rfl, rfl, rfl, rfl, rfl⟩ rfl rfl rfl rfl rfl (by kernel_rfl) Try.func14 (by kernel_rfl)
    (of_decide_eq_true (by kernel_rfl)) (by unfold Func.isWrapper; first | (rw [if_pos (by decide +kernel)]; kernel_rfl) | (rw [if_neg (by decide +kernel)]; exact ⟨rfl, rfl⟩))
    (fun os started H enc _ => genStops_lifted os started H enc)
/-- The statement. -/
theorem genStops_holds : Rows.GenStopsSaid := genStops_over
#print axioms genStops_holds
end Go.Proofs.Ytloinbebkhcndaa
