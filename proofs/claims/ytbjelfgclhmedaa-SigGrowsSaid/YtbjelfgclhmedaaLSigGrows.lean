/- The law SigGrows returns true for every input, and each argument reads afterwards as it did. No condition. -/
import Derived.Test.YtbjelfgclhmedaaRows
import Derived.Test.YtbjelfgclhmedaaU46
import Derived.Test.YtbjelfgclhmedaaSxt
import Derived.Test.YtbjelfgclhmedaaSig
import Derived.Test.YtbjelfgclhmedaaSgs
import Derived.WalkKit
import Derived.ProofKit
import Derived.OpenShut
import Derived.ShutString
import Derived.ChangeOld
import Derived.Below
set_option linter.all false
namespace Go.Proofs.Ytbjelfgclhmedaa
open Go.ChangeShapes Go.WideShapes Go.ChangeAt Go.RowKit
open Go.ChangeMaps (open_string shut_string)
open Go.Sx

theorem try_own : ownKnob Try.prog.godebug = none := by kernel_rfl
theorem try_laidOut : laidOutB Try.prog = true := by kernel_rfl

theorem sigGrows_walk (v0 : Value) (pl0 : Sx.Place) (n0 : Nat) (S : Nat → Sg) (v1 : Value) (a1 : Int) (D1 : Nat → BitVec 8) (hD1 : ∀ ρ, v1 = den ρ (.agg [.int .i64 a1, .fam 32 1 fun i => .int .u8 (nat (D1 i))])) (wa1 : (Lit.int .i64 a1).wf = true) (a2 : Int) (w2 : (Lit.int .i64 a2).wf = true) (w : World)
    (hD0 : ∀ ρ k, ρ k = pl0 → v0 = den ρ (.osl k 0 0 33 n0) ∧ Holds ρ w k (.row false n0 33 fun i => (S i).v)) (hlt0 : pl0.nil = false → pl0.b < w.heap.size) (hn0 : n0 ≤ 9223372036854775807) :
    Calls Try.prog 10 #[v0, v1, .int .i64 a2] w fun e w' => e = .returned (.bool true) ∧ Below w.heap.size w w' := by
  have h := calls_of_callPK (P := Pr.of Try.prog) (h := [.row false n0 33 (fun i => (S i).v)]) (ρ := fun _ => pl0) (w := w) Try.func10 (by kernel_rfl) rfl trivial
    (models_ro (by
      intro k c hc
      rcases k with _ | k
      · cases hc
        exact ⟨rfl, (hD0 (fun _ => pl0) 0 rfl).2, fam_good _ n0 S false, hlt0⟩
      · simp at hc)) (args := [.osl 0 0 0 33 n0, .agg [.int .i64 a1, .fam 32 1 fun i => .int .u8 (nat (D1 i))], .int .i64 a2]) (by simp [okL, ok, sz]) (c10l n0 hn0 S ⟨a1, D1⟩ a2 _ fun _ => rfl)
  rw [(hD0 (fun _ => pl0) 0 rfl).1, hD1 fun _ => pl0]
  exact h

set_option maxRecDepth 100000 in
theorem sigGrows_lifted (os : Os) (started : os.Started) (H : Type) (enc : TypeId × Value → H) :
    ReturnsInHanded {} Try.checked os 10 .any (Rows.sigGrowsSpec.pre6 enc Try.prog Try.f10 Rows.sigGrowsRow.domain false) (Rows.sigGrowsSpec.post enc Try.prog Try.f10 false true false false) := by
  refine returnsInHanded_of_change (C := Try.checked) try_own started (by kernel_rfl) Try.func10
    (ChangeSpec.witness6 (enc := enc) (C := Try.checked) false ⟨#[], #[.slice none 0 0, .agg (#[.int .i64 0] ++ Array.replicate 32 (.int .u8 0)), .int .i64 0], []⟩ 8 (by kernel_rfl) (by kernel_rfl) (by kernel_rfl) (by kernel_rfl)) ?_
  intro W base args ds gs before hval0 hW hcnd _
  have hval : ∀ (j : Nat) t v, Try.f10.params[j]? = some t → args[j]? = some v → Value.okWide Try.prog W .any base t v := hval0
  have hW' := hW
  obtain ⟨p, q, hA0, hV, rfl, hfz, hnd⟩ := hW
  have hA : DataW.TrodAll enc Try.prog W 0 (fun _ => true) true Try.f10.params.toList args.toList ds p := hA0
  rw [Try.params10] at hA hval
  obtain ⟨v0, vs0, d0, ds0, p0, q0, hargs, rfl, rfl, h0, r0⟩ := trodAll_cons hA
  obtain ⟨v1, vs1, d1, ds1, p1, q1, rfl, rfl, rfl, h1, r1⟩ := trodAll_cons r0
  obtain ⟨v2, vs2, d2, ds2, p2, q2, rfl, rfl, rfl, h2, r2⟩ := trodAll_cons r1
  obtain ⟨rfl, rfl, rfl⟩ := trodAll_nil r2
  obtain rfl : args = #[v0, v1, v2] := by cases args; simp_all
  obtain ⟨rfl, rfl⟩ := trodVars_none hV
  have k0 := h0
  have lt0 : ∀ x ∈ p0, x.block < W.heap.size := by obtain ⟨m, hm⟩ := k0; exact DataW.trod_lt m _ _ _ hm
  obtain ⟨pl0, n0, S0, hD0, hlt0, hn0⟩ := open_sigs (hval 0 48 v0 rfl rfl) h0
  have k1 := h1
  have lt1 : ∀ x ∈ p1, x.block < W.heap.size := by obtain ⟨m, hm⟩ := k1; exact DataW.trod_lt m _ _ _ hm
  obtain ⟨a1, D1, hD1, wa1⟩ := open_sig (hval 1 40 v1 rfl rfl) h1
  have k2 := h2
  have lt2 : ∀ x ∈ p2, x.block < W.heap.size := by obtain ⟨m, hm⟩ := k2; exact DataW.trod_lt m _ _ _ hm
  obtain ⟨a2, rfl, rfl, rfl, w2⟩ := open_int Try.underlying3 (hval 2 3 v2 rfl rfl) h2
  clear hA0 hval0
  refine (sigGrows_walk v0 pl0 n0 S0 v1 a1 D1 hD1 wa1 a2 w2 W hD0 hlt0 hn0).mono fun e W' ⟨he, bel⟩ => ?_
  subst he
  exact ⟨_, rfl, _, _, _, [], _, [], hW', trodAll_mk1 (shut_bool Try.underlying4 _), (trodAll_cons_mk (Below.trod try_laidOut (by kernel_rfl) (of_decide_eq_true (by kernel_rfl)) k0 bel lt0) (trodAll_cons_mk (Below.trod try_laidOut (by kernel_rfl) (of_decide_eq_true (by kernel_rfl)) k1 bel lt1) (trodAll_cons_mk (Below.trod try_laidOut (by kernel_rfl) (of_decide_eq_true (by kernel_rfl)) k2 bel lt2) trodAll_mk0))), rfl, bel.frame _, fun h => by cases h⟩
theorem sigGrows_over : Rows.sigGrowsRow.holds Try.pinned (OpenSpec.ofChange Rows.sigGrowsSpec) :=
  OpenClaim.holds_of_wide 10 Try.f10 rfl rfl rfl rfl rfl rfl rfl ⟨rfl, rfl, rfl, rfl, rfl⟩ rfl rfl rfl rfl rfl (by kernel_rfl) Try.func10 (by kernel_rfl)
    (of_decide_eq_true (by kernel_rfl)) (by unfold Func.isWrapper; first | (rw [if_pos (by decide +kernel)]; kernel_rfl) | (rw [if_neg (by decide +kernel)]; exact ⟨rfl, rfl⟩))
    (fun os started H enc _ => sigGrows_lifted os started H enc)
/-- The statement. -/
theorem sigGrows_holds : Rows.SigGrowsSaid := sigGrows_over
#print axioms sigGrows_holds
end Go.Proofs.Ytbjelfgclhmedaa
