/- The law SigLedgers returns true for every input, and each argument reads afterwards as it did. No condition. -/
import Derived.Test.YtbjelfgclhmedaaRows
import Derived.Test.YtbjelfgclhmedaaU47
import Derived.Test.YtbjelfgclhmedaaSxt
import Derived.Test.YtbjelfgclhmedaaSgs
import Derived.Test.YtbjelfgclhmedaaLed
import Derived.WalkKit
import Derived.ProofKit
import Derived.OpenShut
import Derived.ShutString
import Derived.ChangeOld
import Derived.Below
set_option linter.all false
namespace Go.Proofs.Ytbjelfgclhmedaa
open Go.ChangeShapes Go.WideShapes Go.ChangeAt Go.RowKit
open Go.ChangeMaps (open_string shut_string)
open Go.Sx

theorem try_own : ownKnob Try.prog.godebug = none := by kernel_rfl
theorem try_laidOut : laidOutB Try.prog = true := by kernel_rfl

theorem sigLedgers_walk (v0 : Value) (pl0 : Sx.Place) (n0 : Nat) (S0 : Nat → Sg) (v1 : Value) (pl1 : Sx.Place) (n1 : Nat) (S1 : Nat → Bool) (v2 : Value) (pl2 : Sx.Place) (n2 : Nat) (S2 : Nat → Sg) (v3 : Value) (pl3 : Sx.Place) (n3 : Nat) (S3 : Nat → Int) (w : World)
    (hD0 : ∀ ρ k, ρ k = pl0 → v0 = den ρ (.osl k 0 0 33 n0) ∧ Holds ρ w k (.row false n0 33 (fun i => (S0 i).v))) (hlt0 : pl0.nil = false → pl0.b < w.heap.size) (hn0 : n0 ≤ 9223372036854775807)
    (hD1 : ∀ ρ k, ρ k = pl1 → v1 = den ρ (.osl k 0 0 1 n1) ∧ Holds ρ w k (.row false n1 1 (fun i => .bool (S1 i)))) (hlt1 : pl1.nil = false → pl1.b < w.heap.size) (hn1 : n1 ≤ 9223372036854775807)
    (hD2 : ∀ ρ k, ρ k = pl2 → v2 = den ρ (.osl k 0 0 33 n2) ∧ Holds ρ w k (.row false n2 33 (fun i => (S2 i).v))) (hlt2 : pl2.nil = false → pl2.b < w.heap.size) (hn2 : n2 ≤ 9223372036854775807)
    (hD3 : ∀ ρ k, ρ k = pl3 → v3 = den ρ (.osl k 0 0 1 n3) ∧ Holds ρ w k (.row false n3 1 (fun i => .int .i64 (S3 i)))) (hlt3 : pl3.nil = false → pl3.b < w.heap.size) (hn3 : n3 ≤ 9223372036854775807) :
    Calls Try.prog 12 #[v0, v1, v2, v3] w fun e w' => e = .returned (.bool true) ∧ Below w.heap.size w w' := by
  obtain ⟨ρ, r0, r1, r2, r3⟩ : ∃ ρ : Env, ρ 0 = pl0 ∧ ρ 1 = pl1 ∧ ρ 2 = pl2 ∧ ρ 3 = pl3 := ⟨fun k => match k with | 0 => pl0 | 1 => pl1 | 2 => pl2 | _ => pl3, rfl, rfl, rfl, rfl⟩
  have h := calls_of_callPK (P := Pr.of Try.prog) (h := [.row false n0 33 (fun i => (S0 i).v), .row false n1 1 (fun i => .bool (S1 i)), .row false n2 33 (fun i => (S2 i).v), .row false n3 1 (fun i => .int .i64 (S3 i))]) (ρ := ρ) (w := w) Try.func12 (by kernel_rfl) rfl trivial
    (models_ro (by
      intro k c hc
      rcases k with _ | _ | _ | _ | k
      · cases hc
        exact ⟨rfl, (hD0 _ 0 r0).2, fam_good _ n0 S0 false, by rw [r0]; exact hlt0⟩
      · cases hc
        exact ⟨rfl, (hD1 _ 1 r1).2, ⟨fun i _ => ⟨rfl, by simp [ok]⟩, fun i _ => by simp [stor]⟩, by rw [r1]; exact hlt1⟩
      · cases hc
        exact ⟨rfl, (hD2 _ 2 r2).2, fam_good _ n2 S2 false, by rw [r2]; exact hlt2⟩
      · cases hc
        exact ⟨rfl, (hD3 _ 3 r3).2, ⟨fun i _ => ⟨rfl, by simp [ok]⟩, fun i _ => by simp [stor]⟩, by rw [r3]; exact hlt3⟩
      · simp at hc)) (args := [.osl 0 0 0 33 n0, .osl 1 0 0 1 n1, .osl 2 0 0 33 n2, .osl 3 0 0 1 n3]) (by simp [okL, ok, sz]) (c12l n0 n1 n2 n3 hn0 hn1 hn2 hn3 S0 S2 S1 S3 _ fun _ => rfl)
  rw [(hD0 ρ 0 r0).1, (hD1 ρ 1 r1).1, (hD2 ρ 2 r2).1, (hD3 ρ 3 r3).1]
  exact h

set_option maxRecDepth 100000 in
theorem sigLedgers_lifted (os : Os) (started : os.Started) (H : Type) (enc : TypeId × Value → H) :
    ReturnsInHanded {} Try.checked os 12 .any (Rows.sigLedgersSpec.pre6 enc Try.prog Try.f12 Rows.sigLedgersRow.domain false) (Rows.sigLedgersSpec.post enc Try.prog Try.f12 false true false false) := by
  refine returnsInHanded_of_change (C := Try.checked) try_own started (by kernel_rfl) Try.func12
    (ChangeSpec.witness6 (enc := enc) (C := Try.checked) false ⟨#[], #[.slice none 0 0, .slice none 0 0, .slice none 0 0, .slice none 0 0], []⟩ 8 (by kernel_rfl) (by kernel_rfl) (by kernel_rfl) (by kernel_rfl)) ?_
  intro W base args ds gs before hval0 hW hcnd _
  have hval : ∀ (j : Nat) t v, Try.f12.params[j]? = some t → args[j]? = some v → Value.okWide Try.prog W .any base t v := hval0
  have hW' := hW
  obtain ⟨p, q, hA0, hV, rfl, hfz, hnd⟩ := hW
  have hA : DataW.TrodAll enc Try.prog W 0 (fun _ => true) true Try.f12.params.toList args.toList ds p := hA0
  rw [Try.params12] at hA hval
  obtain ⟨v0, vs0, d0, ds0, p0, q0, hargs, rfl, rfl, h0, r0⟩ := trodAll_cons hA
  obtain ⟨v1, vs1, d1, ds1, p1, q1, rfl, rfl, rfl, h1, r1⟩ := trodAll_cons r0
  obtain ⟨v2, vs2, d2, ds2, p2, q2, rfl, rfl, rfl, h2, r2⟩ := trodAll_cons r1
  obtain ⟨v3, vs3, d3, ds3, p3, q3, rfl, rfl, rfl, h3, r3⟩ := trodAll_cons r2
  obtain ⟨rfl, rfl, rfl⟩ := trodAll_nil r3
  obtain rfl : args = #[v0, v1, v2, v3] := by cases args; simp_all
  obtain ⟨rfl, rfl⟩ := trodVars_none hV
  have k0 := h0
  have lt0 : ∀ x ∈ p0, x.block < W.heap.size := by obtain ⟨m, hm⟩ := k0; exact DataW.trod_lt m _ _ _ hm
  obtain ⟨pl0, n0, S0, hD0, hlt0, hn0⟩ := open_sigs (hval 0 48 v0 rfl rfl) h0
  have k1 := h1
  have lt1 : ∀ x ∈ p1, x.block < W.heap.size := by obtain ⟨m, hm⟩ := k1; exact DataW.trod_lt m _ _ _ hm
  obtain ⟨pl1, n1, S1, hD1, hlt1, hn1⟩ := open_bools Try.underlying57 (hval 1 57 v1 rfl rfl) h1
  have k2 := h2
  have lt2 : ∀ x ∈ p2, x.block < W.heap.size := by obtain ⟨m, hm⟩ := k2; exact DataW.trod_lt m _ _ _ hm
  obtain ⟨pl2, n2, S2, hD2, hlt2, hn2⟩ := open_sigs (hval 2 48 v2 rfl rfl) h2
  have k3 := h3
  have lt3 : ∀ x ∈ p3, x.block < W.heap.size := by obtain ⟨m, hm⟩ := k3; exact DataW.trod_lt m _ _ _ hm
  obtain ⟨pl3, n3, S3, hD3, hlt3, hn3⟩ := open_nums Try.underlying53 (hval 3 53 v3 rfl rfl) h3
  clear hA0 hval0
  refine (sigLedgers_walk v0 pl0 n0 S0 v1 pl1 n1 S1 v2 pl2 n2 S2 v3 pl3 n3 S3 W hD0 hlt0 hn0 hD1 hlt1 hn1 hD2 hlt2 hn2 hD3 hlt3 hn3).mono fun e W' ⟨he, bel⟩ => ?_
  subst he
  exact ⟨_, rfl, _, _, _, [], _, [], hW', trodAll_mk1 (shut_bool Try.underlying4 _), (trodAll_cons_mk (Below.trod try_laidOut (by kernel_rfl) (of_decide_eq_true (by kernel_rfl)) k0 bel lt0) (trodAll_cons_mk (Below.trod try_laidOut (by kernel_rfl) (of_decide_eq_true (by kernel_rfl)) k1 bel lt1) (trodAll_cons_mk (Below.trod try_laidOut (by kernel_rfl) (of_decide_eq_true (by kernel_rfl)) k2 bel lt2) (trodAll_cons_mk (Below.trod try_laidOut (by kernel_rfl) (of_decide_eq_true (by kernel_rfl)) k3 bel lt3) trodAll_mk0)))), rfl, bel.frame _, fun h => by cases h⟩
theorem sigLedgers_over : Rows.sigLedgersRow.holds Try.pinned (OpenSpec.ofChange Rows.sigLedgersSpec) :=
  OpenClaim.holds_of_wide 12 Try.f12 rfl rfl rfl rfl rfl rfl rfl ⟨rfl, rfl, rfl, rfl, rfl⟩ rfl rfl rfl rfl rfl (by kernel_rfl) Try.func12 (by kernel_rfl)
    (of_decide_eq_true (by kernel_rfl)) (by unfold Func.isWrapper; first | (rw [if_pos (by decide +kernel)]; kernel_rfl) | (rw [if_neg (by decide +kernel)]; exact ⟨rfl, rfl⟩))
    (fun os started H enc _ => sigLedgers_lifted os started H enc)
/-- The statement. -/
theorem sigLedgers_holds : Rows.SigLedgersSaid := sigLedgers_over
#print axioms sigLedgers_holds
end Go.Proofs.Ytbjelfgclhmedaa
