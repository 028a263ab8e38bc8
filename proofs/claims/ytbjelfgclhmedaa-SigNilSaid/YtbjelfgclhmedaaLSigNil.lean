/- The law SigNil returns true for every input, and each argument reads afterwards as it did. No condition. -/
import Derived.Test.YtbjelfgclhmedaaRows
import Derived.Test.YtbjelfgclhmedaaU22
import Derived.Test.YtbjelfgclhmedaaSxt
import Derived.Test.YtbjelfgclhmedaaSig
import Derived.WalkKit
import Derived.ProofKit
import Derived.OpenShut
import Derived.ShutString
import Derived.ChangeOld
import Derived.Below
set_option linter.all false
namespace Go.Proofs.Ytbjelfgclhmedaa
open Go.ChangeShapes Go.WideShapes Go.ChangeAt Go.RowKit
open Go.ChangeMaps (open_string shut_string)
open Go.Sx

theorem try_own : ownKnob Try.prog.godebug = none := by kernel_rfl
theorem try_laidOut : laidOutB Try.prog = true := by kernel_rfl

theorem sigNil_walk (v : Value) (a : Int) (D : Nat → BitVec 8) (hD : ∀ ρ, v = den ρ (.agg [.int .i64 a, .fam 32 1 fun i => .int .u8 (nat (D i))])) (wa : (Lit.int .i64 a).wf = true) (sa : Option Addr) (sl sc : Nat) (w : World) :
    Calls Try.prog 11 #[v, .slice sa sl sc] w fun e w' => e = .returned (.bool true) ∧ Below w.heap.size w w' := by
  have h := calls_of_callP (h := []) (ρ := fun _ => ⟨0, 0, 0, true⟩) (w := w) Try.func11 (by kernel_rfl) rfl (models_nil w _) (args := [.agg [.int .i64 a, .fam 32 1 fun i => .int .u8 (nat (D i))], .v (.slice sa sl sc)]) (by simp [okL, ok, sz]) (c11l a D sa sl sc _ fun _ => rfl)
  rw [hD fun _ => ⟨0, 0, 0, true⟩]
  exact h

set_option maxRecDepth 100000 in
theorem sigNil_lifted (os : Os) (started : os.Started) (H : Type) (enc : TypeId × Value → H) :
    ReturnsInHanded {} Try.checked os 11 .any (Rows.sigNilSpec.pre6 enc Try.prog Try.f11 Rows.sigNilRow.domain false) (Rows.sigNilSpec.post enc Try.prog Try.f11 false true false false) := by
  refine returnsInHanded_of_change (C := Try.checked) try_own started (by kernel_rfl) Try.func11
    (ChangeSpec.witness6 (enc := enc) (C := Try.checked) false ⟨#[], #[.agg (#[.int .i64 0] ++ Array.replicate 32 (.int .u8 0)), .slice none 0 0], []⟩ 8 (by kernel_rfl) (by kernel_rfl) (by kernel_rfl) (by kernel_rfl)) ?_
  intro W base args ds gs before hval0 hW hcnd _
  have hval : ∀ (j : Nat) t v, Try.f11.params[j]? = some t → args[j]? = some v → Value.okWide Try.prog W .any base t v := hval0
  have hW' := hW
  obtain ⟨p, q, hA0, hV, rfl, hfz, hnd⟩ := hW
  have hA : DataW.TrodAll enc Try.prog W 0 (fun _ => true) true Try.f11.params.toList args.toList ds p := hA0
  rw [Try.params11] at hA hval
  obtain ⟨v0, vs0, d0, ds0, p0, q0, hargs, rfl, rfl, h0, r0⟩ := trodAll_cons hA
  obtain ⟨v1, vs1, d1, ds1, p1, q1, rfl, rfl, rfl, h1, r1⟩ := trodAll_cons r0
  obtain ⟨rfl, rfl, rfl⟩ := trodAll_nil r1
  obtain rfl : args = #[v0, v1] := by cases args; simp_all
  obtain ⟨rfl, rfl⟩ := trodVars_none hV
  have k0 := h0
  have lt0 : ∀ x ∈ p0, x.block < W.heap.size := by obtain ⟨m, hm⟩ := k0; exact DataW.trod_lt m _ _ _ hm
  obtain ⟨a0, D0, hD0, wa0⟩ := open_sig (hval 0 40 v0 rfl rfl) h0
  have k1 := h1
  have lt1 : ∀ x ∈ p1, x.block < W.heap.size := by obtain ⟨m, hm⟩ := k1; exact DataW.trod_lt m _ _ _ hm
  obtain ⟨sa1, sl1, sc1, rfl⟩ := okWide_slice Try.underlying53 (hval 1 53 v1 rfl rfl)
  clear hA0 hval0
  refine (sigNil_walk v0 a0 D0 hD0 wa0 sa1 sl1 sc1 W).mono fun e W' ⟨he, bel⟩ => ?_
  subst he
  exact ⟨_, rfl, _, _, _, [], _, [], hW', trodAll_mk1 (shut_bool Try.underlying4 _), (trodAll_cons_mk (Below.trod try_laidOut (by kernel_rfl) (of_decide_eq_true (by kernel_rfl)) k0 bel lt0) (trodAll_cons_mk (Below.trod try_laidOut (by kernel_rfl) (of_decide_eq_true (by kernel_rfl)) k1 bel lt1) trodAll_mk0)), rfl, bel.frame _, fun h => by cases h⟩
theorem sigNil_over : Rows.sigNilRow.holds Try.pinned (OpenSpec.ofChange Rows.sigNilSpec) :=
  OpenClaim.holds_of_wide 11 Try.f11 rfl rfl rfl rfl rfl rfl rfl ⟨rfl, rfl, rfl, rfl, rfl⟩ rfl rfl rfl rfl rfl (by kernel_rfl) Try.func11 (by kernel_rfl)
    (of_decide_eq_true (by kernel_rfl)) (by unfold Func.isWrapper; first | (rw [if_pos (by decide +kernel)]; kernel_rfl) | (rw [if_neg (by decide +kernel)]; exact ⟨rfl, rfl⟩))
    (fun os started H enc _ => sigNil_lifted os started H enc)
/-- The statement. -/
theorem sigNil_holds : Rows.SigNilSaid := sigNil_over
#print axioms sigNil_holds
end Go.Proofs.Ytbjelfgclhmedaa
