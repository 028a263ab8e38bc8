/- The law ChainRoots returns true for every input, and each argument reads afterwards as it did. No condition. -/
import Derived.Test.YtbjelfgclhmedaaRows
import Derived.Test.YtbjelfgclhmedaaU39
import Derived.Test.YtbjelfgclhmedaaSxt
import Derived.WalkKit
import Derived.ProofKit
import Derived.OpenShut
import Derived.ShutString
import Derived.ChangeOld
import Derived.Below
set_option linter.all false
namespace Go.Proofs.Ytbjelfgclhmedaa
open Go.ChangeShapes Go.WideShapes Go.ChangeAt Go.RowKit
open Go.ChangeMaps (open_string shut_string)
open Go.Sx

theorem try_own : ownKnob Try.prog.godebug = none := by kernel_rfl
theorem try_laidOut : laidOutB Try.prog = true := by kernel_rfl

theorem chainRoots_walk (v : Value) (pl : Sx.Place) (n : Nat) (V : Nat → Value) (len : Nat → Nat) (B : Nat → Nat → BitVec 8) (a : Int) (wa : (Lit.int .i64 a).wf = true) (w : World)
    (hD : ∀ ρ k, ρ k = pl → v = den ρ (.osl k 0 0 1 n) ∧ Holds ρ w k (.row false n 1 fun i => .v (V i))) (hlt : pl.nil = false → pl.b < w.heap.size)
    (hV : ∀ i, i < n → BRow w (V i) (len i) (B i) ∧ ∃ a l c, V i = .slice a l c) (hn : n ≤ 9223372036854775807) :
    Calls Try.prog 14 #[v, .int .i64 a] w fun e w' => e = .returned (.bool true) ∧ Below w.heap.size w w' := by
  obtain ⟨Q, hQ⟩ := rowsKnow_of_brow (fun i hi => (hV i hi).1)
  have hL : ∀ i, i < n → ∃ a c, V i = .slice a (Q i).len c := fun i hi => rowsKnow_len hQ hi
  have hg : ∀ i, i < n → (V i).cells.size = 1 ∧ (V i).oneCell' = true := fun i hi => sv_good hL i hi
  have h := calls_of_callPK (P := rk Try.prog n V Q) (h := [.row false n 1 (fun i => .v (V i))]) (ρ := fun _ => pl) (w := w) Try.func14 (by kernel_rfl) rfl hQ
    (models_ro (by
      intro k c hc
      rcases k with _ | k
      · cases hc
        exact ⟨rfl, (hD (fun _ => pl) 0 rfl).2, ⟨fun i hi => ⟨(hg i hi).1, trivial⟩, fun i hi => (hg i hi).2⟩, hlt⟩
      · simp at hc)) (args := [.osl 0 0 0 1 n, .int .i64 a]) (by simp [okL, ok]) (c14l n V Q hn hL a _ fun _ => rfl)
  rw [(hD (fun _ => pl) 0 rfl).1]
  exact h

set_option maxRecDepth 100000 in
theorem chainRoots_lifted (os : Os) (started : os.Started) (H : Type) (enc : TypeId × Value → H) :
    ReturnsInHanded {} Try.checked os 14 .any (Rows.chainRootsSpec.pre6 enc Try.prog Try.f14 Rows.chainRootsRow.domain false) (Rows.chainRootsSpec.post enc Try.prog Try.f14 false true false false) := by
  refine returnsInHanded_of_change (C := Try.checked) try_own started (by kernel_rfl) Try.func14
    (ChangeSpec.witness6 (enc := enc) (C := Try.checked) false ⟨#[], #[.slice none 0 0, .int .i64 0], []⟩ 8 (by kernel_rfl) (by kernel_rfl) (by kernel_rfl) (by kernel_rfl)) ?_
  intro W base args ds gs before hval0 hW hcnd _
  have hval : ∀ (j : Nat) t v, Try.f14.params[j]? = some t → args[j]? = some v → Value.okWide Try.prog W .any base t v := hval0
  have hW' := hW
  obtain ⟨p, q, hA0, hV, rfl, hfz, hnd⟩ := hW
  have hA : DataW.TrodAll enc Try.prog W 0 (fun _ => true) true Try.f14.params.toList args.toList ds p := hA0
  rw [Try.params14] at hA hval
  obtain ⟨v0, vs0, d0, ds0, p0, q0, hargs, rfl, rfl, h0, r0⟩ := trodAll_cons hA
  obtain ⟨v1, vs1, d1, ds1, p1, q1, rfl, rfl, rfl, h1, r1⟩ := trodAll_cons r0
  obtain ⟨rfl, rfl, rfl⟩ := trodAll_nil r1
  obtain rfl : args = #[v0, v1] := by cases args; simp_all
  obtain ⟨rfl, rfl⟩ := trodVars_none hV
  have k0 := h0
  have lt0 : ∀ x ∈ p0, x.block < W.heap.size := by obtain ⟨m, hm⟩ := k0; exact DataW.trod_lt m _ _ _ hm
  obtain ⟨pl0, n0, V0, len0, B0, hD0, hlt0, hV0, hn0⟩ := open_rows Try.underlying22 Try.underlying25 Try.underlying5 (by kernel_rfl) (by kernel_rfl) (hval 0 22 v0 rfl rfl) h0
  have k1 := h1
  have lt1 : ∀ x ∈ p1, x.block < W.heap.size := by obtain ⟨m, hm⟩ := k1; exact DataW.trod_lt m _ _ _ hm
  obtain ⟨a1, rfl, rfl, rfl, w1⟩ := open_int Try.underlying3 (hval 1 3 v1 rfl rfl) h1
  clear hA0 hval0
  refine (chainRoots_walk v0 pl0 n0 V0 len0 B0 a1 w1 W hD0 hlt0 hV0 hn0).mono fun e W' ⟨he, bel⟩ => ?_
  subst he
  exact ⟨_, rfl, _, _, _, [], _, [], hW', trodAll_mk1 (shut_bool Try.underlying4 _), (trodAll_cons_mk (Below.trod try_laidOut (by kernel_rfl) (of_decide_eq_true (by kernel_rfl)) k0 bel lt0) (trodAll_cons_mk (Below.trod try_laidOut (by kernel_rfl) (of_decide_eq_true (by kernel_rfl)) k1 bel lt1) trodAll_mk0)), rfl, bel.frame _, fun h => by cases h⟩
theorem chainRoots_over : Rows.chainRootsRow.holds Try.pinned (OpenSpec.ofChange Rows.chainRootsSpec) :=
  OpenClaim.holds_of_wide 14 Try.f14 rfl rfl rfl rfl rfl rfl rfl ⟨rfl, rfl, rfl, rfl, rfl⟩ rfl rfl rfl rfl rfl (by kernel_rfl) Try.func14 (by kernel_rfl)
    (of_decide_eq_true (by kernel_rfl)) (by unfold Func.isWrapper; first | (rw [if_pos (by decide +kernel)]; kernel_rfl) | (rw [if_neg (by decide +kernel)]; exact ⟨rfl, rfl⟩))
    (fun os started H enc _ => chainRoots_lifted os started H enc)
/-- The statement. -/
theorem chainRoots_holds : Rows.ChainRootsSaid := chainRoots_over
#print axioms chainRoots_holds
end Go.Proofs.Ytbjelfgclhmedaa
