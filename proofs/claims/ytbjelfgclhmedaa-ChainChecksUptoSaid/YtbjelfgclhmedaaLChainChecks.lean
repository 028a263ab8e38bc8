/- The law ChainChecks returns true for every input that holds at most 1048576 values and letters, and each argument reads afterwards as it did. Its condition: that bound. -/
import Derived.Test.YtbjelfgclhmedaaRows
import Derived.Test.YtbjelfgclhmedaaBulk
import Derived.Test.YtbjelfgclhmedaaU42
import Derived.Test.YtbjelfgclhmedaaSxt
import Derived.Test.YtbjelfgclhmedaaSxw
import Derived.WalkKit
import Derived.ProofKit
import Derived.OpenShut
import Derived.ShutString
import Derived.ChangeOld
import Derived.JoinedCond
import Derived.Below
set_option linter.all false
namespace Go.Proofs.Ytbjelfgclhmedaa
open Go.ChangeShapes Go.WideShapes Go.ChangeAt Go.RowKit
open Go.ChangeMaps (open_string shut_string)
open Go.Sx

theorem try_own : ownKnob Try.prog.godebug = none := by kernel_rfl
theorem try_laidOut : laidOutB Try.prog = true := by kernel_rfl

theorem chainChecks_walk (v0 : Value) (R : Nat → BitVec 8) (hD0 : ∀ ρ, v0 = den ρ (.fam 32 1 fun i => .int .u8 (nat (R i)))) (v1 : Value) (pl1 : Sx.Place) (len1 : Nat) (B1 : Nat → BitVec 8) (a2 : Int) (w2 : (Lit.int .i64 a2).wf = true) (a3 : Int) (w3 : (Lit.int .i64 a3).wf = true)
    (v4 : Value) (pl4 : Sx.Place) (n4 : Nat) (PD : Nat → Nat → BitVec 8) (b5 : Bool) (w : World)
    (hD1 : ∀ ρ k, ρ k = pl1 → v1 = den ρ (.osl k 0 0 1 len1) ∧ Holds ρ w k (.row false len1 1 fun i => .int .u8 (nat (B1 i)))) (hlt1 : pl1.nil = false → pl1.b < w.heap.size) (hlen1 : len1 ≤ 1048576)
    (hD4 : ∀ ρ k, ρ k = pl4 → v4 = den ρ (.osl k 0 0 32 n4) ∧ Holds ρ w k (.row false n4 32 fun i => .fam 32 1 fun j => .int .u8 (nat (PD i j)))) (hlt4 : pl4.nil = false → pl4.b < w.heap.size) (hn4 : n4 ≤ 9223372036854775807) :
    Calls Try.prog 15 #[v0, v1, .int .i64 a2, .int .i64 a3, v4, .bool b5] w fun e w' => e = .returned (.bool true) ∧ Below w.heap.size w w' := by
  let ρ : Env := fun k => if k = 0 then pl1 else pl4
  have h := calls_of_callPK (P := Pr.of Try.prog) (h := [.row false len1 1 (fun i => .int .u8 (nat (B1 i))), .row false n4 32 fun i => .fam 32 1 fun j => .int .u8 (nat (PD i j))]) (ρ := ρ) (w := w) Try.func15 (by kernel_rfl) rfl trivial
    (models_ro (by
      intro k c hc
      rcases k with _ | _ | k
      · cases hc
        exact ⟨rfl, (hD1 ρ 0 rfl).2, ⟨fun i hi => ⟨rfl, trivial⟩, fun i hi => trivial⟩, hlt1⟩
      · cases hc
        exact ⟨rfl, (hD4 ρ 1 rfl).2, ⟨fun i hi => ⟨rfl, by simp [ok, sz]⟩, fun i hi => by simp [stor]⟩, hlt4⟩
      · simp at hc)) (args := [.fam 32 1 fun i => .int .u8 (nat (R i)), .osl 0 0 0 1 len1, .int .i64 a2, .int .i64 a3, .osl 1 0 0 32 n4, .bool b5]) (by simp [okL, ok, sz]) (c15l len1 B1 hlen1 n4 PD R a2 a3 b5 _ fun _ => rfl)
  rw [hD0 ρ, (hD1 ρ 0 rfl).1, (hD4 ρ 1 rfl).1]
  exact h

set_option maxRecDepth 100000 in
theorem chainChecks_contract (H : Type) (enc : TypeId × Value → H) (W : World) (base : Nat) (args : Array Value) (ds gs : List (DataW H)) (before : List MemPlace)
    (hval : ∀ (j : Nat) t v, Try.f15.params[j]? = some t → args[j]? = some v → Value.okWide Try.prog W .any base t v)
    (hW : DataW.Whole enc Try.prog Try.f15.params.toList Rows.chainChecksSpec.vars false W args.toList ds gs before) (hk : Rows.uptoSmall H (ds ++ gs) = true) :
    Calls Try.prog 15 args W fun e W' => ∃ v, e = .returned v ∧ Rows.chainChecksSpec.post enc Try.prog Try.f15 false true false false W args v W' := by
  have hW' := hW
  obtain ⟨p, q, hA0, hV, rfl, hfz, hnd⟩ := hW
  have hA : DataW.TrodAll enc Try.prog W 0 (fun _ => true) true Try.f15.params.toList args.toList ds p := hA0
  rw [Try.params15] at hA hval
  obtain ⟨v0, vs0, d0, ds0, p0, q0, hargs, rfl, rfl, h0, r0⟩ := trodAll_cons hA
  obtain ⟨v1, vs1, d1, ds1, p1, q1, rfl, rfl, rfl, h1, r1⟩ := trodAll_cons r0
  obtain ⟨v2, vs2, d2, ds2, p2, q2, rfl, rfl, rfl, h2, r2⟩ := trodAll_cons r1
  obtain ⟨v3, vs3, d3, ds3, p3, q3, rfl, rfl, rfl, h3, r3⟩ := trodAll_cons r2
  obtain ⟨v4, vs4, d4, ds4, p4, q4, rfl, rfl, rfl, h4, r4⟩ := trodAll_cons r3
  obtain ⟨v5, vs5, d5, ds5, p5, q5, rfl, rfl, rfl, h5, r5⟩ := trodAll_cons r4
  obtain ⟨rfl, rfl, rfl⟩ := trodAll_nil r5
  obtain rfl : args = #[v0, v1, v2, v3, v4, v5] := by cases args; simp_all
  obtain ⟨rfl, rfl⟩ := trodVars_none hV
  have hb := bulks.bound hk
  have k1 := h1
  have lt1 : ∀ x ∈ p1, x.block < W.heap.size := by obtain ⟨m, hm⟩ := k1; exact DataW.trod_lt m _ _ _ hm
  obtain ⟨pl1, len1, B1, hD1, hlt1, hle1⟩ := open_bytes Try.underlying25 Try.underlying5 (by kernel_rfl) (hval 1 25 v1 rfl rfl) h1
  have hlen1 : len1 ≤ 1048576 := by
    rcases hle1 with ⟨h, _⟩ | ⟨es, rs, h, h2⟩
    · omega
    · have h3 := bulks.part_le (d := d1) (l := [d0, d1, d2, d3, d4, d5] ++ []) (by simp)
      have h4 := bulks.slice_le es rs
      rw [h] at h3
      rw [h] at hb
      simp only [List.nil_append, List.append_nil] at h3 hb ⊢
      omega
  have k0 := h0
  have lt0 : ∀ x ∈ p0, x.block < W.heap.size := by obtain ⟨m, hm⟩ := k0; exact DataW.trod_lt m _ _ _ hm
  obtain ⟨D0, hD0⟩ := open_bytes_arr (n := 32) Try.underlying29 Try.underlying5 (by kernel_rfl) (by kernel_rfl) (hval 0 29 v0 rfl rfl) h0
  have k2 := h2
  have lt2 : ∀ x ∈ p2, x.block < W.heap.size := by obtain ⟨m, hm⟩ := k2; exact DataW.trod_lt m _ _ _ hm
  obtain ⟨a2, rfl, rfl, rfl, w2⟩ := open_int Try.underlying3 (hval 2 3 v2 rfl rfl) h2
  have k3 := h3
  have lt3 : ∀ x ∈ p3, x.block < W.heap.size := by obtain ⟨m, hm⟩ := k3; exact DataW.trod_lt m _ _ _ hm
  obtain ⟨a3, rfl, rfl, rfl, w3⟩ := open_int Try.underlying3 (hval 3 3 v3 rfl rfl) h3
  have k4 := h4
  have lt4 : ∀ x ∈ p4, x.block < W.heap.size := by obtain ⟨m, hm⟩ := k4; exact DataW.trod_lt m _ _ _ hm
  obtain ⟨pl4, n4, PD4, hD4, hlt4, hn4⟩ := open_digs Try.underlying64 Try.underlying29 Try.underlying5 (by kernel_rfl) (by kernel_rfl) (hval 4 64 v4 rfl rfl) h4
  have k5 := h5
  have lt5 : ∀ x ∈ p5, x.block < W.heap.size := by obtain ⟨m, hm⟩ := k5; exact DataW.trod_lt m _ _ _ hm
  obtain ⟨b5, rfl, rfl, rfl⟩ := open_bool Try.underlying4 (hval 5 4 v5 rfl rfl) h5
  clear hA0
  refine (chainChecks_walk v0 D0 hD0 v1 pl1 len1 B1 a2 w2 a3 w3 v4 pl4 n4 PD4 b5 W hD1 hlt1 hlen1 hD4 hlt4 hn4).mono fun e W' ⟨he, bel⟩ => ?_
  subst he
  exact ⟨_, rfl, _, _, _, [], _, [], hW', trodAll_mk1 (shut_bool Try.underlying4 _), (trodAll_cons_mk (Below.trod try_laidOut (by kernel_rfl) (of_decide_eq_true (by kernel_rfl)) k0 bel lt0) (trodAll_cons_mk (Below.trod try_laidOut (by kernel_rfl) (of_decide_eq_true (by kernel_rfl)) k1 bel lt1) (trodAll_cons_mk (Below.trod try_laidOut (by kernel_rfl) (of_decide_eq_true (by kernel_rfl)) k2 bel lt2) (trodAll_cons_mk (Below.trod try_laidOut (by kernel_rfl) (of_decide_eq_true (by kernel_rfl)) k3 bel lt3) (trodAll_cons_mk (Below.trod try_laidOut (by kernel_rfl) (of_decide_eq_true (by kernel_rfl)) k4 bel lt4) (trodAll_cons_mk (Below.trod try_laidOut (by kernel_rfl) (of_decide_eq_true (by kernel_rfl)) k5 bel lt5) trodAll_mk0)))))), rfl, bel.frame _, fun h => by cases h⟩
set_option maxRecDepth 100000 in
theorem chainChecks_lifted (os : Os) (started : os.Started) (H : Type) (enc : TypeId × Value → H) (F : Stop.Interp) :
    ReturnsInHanded {} Try.checked os 15 .any ((Rows.OpenSpec.upto Rows.chainChecksSpec).pre6 enc Try.prog Try.f15 Rows.chainChecksUptoRow.domain false) (((Rows.OpenSpec.upto Rows.chainChecksSpec).at F).post enc Try.prog Try.f15 false true false false) := by
  refine returnsInHanded_of_cond (C := Try.checked) (s := Rows.OpenSpec.upto Rows.chainChecksSpec) (k := Rows.uptoSmall) rfl try_own started (by kernel_rfl) Try.func15
    (OpenSpec.witness (enc := enc) (C := Try.checked) (s := Rows.OpenSpec.upto Rows.chainChecksSpec) (k := Rows.uptoSmall) rfl false ⟨#[], #[.agg (Array.replicate 32 (.int .u8 0)), .slice none 0 0, .int .i64 0, .int .i64 0, .slice none 0 0, .bool false], []⟩ 8 (by kernel_rfl) (by kernel_rfl) (by kernel_rfl)
      (x := ([.agg (List.replicate 32 (.lit (.int .u8 0))), .nil, .lit (.int .i64 0), .lit (.int .i64 0), .nil, .lit (.bool false)], [], [])) (by kernel_rfl) rfl (by kernel_rfl)) ?_
  intro W base args ds gs before hval hW _ hk _
  exact chainChecks_contract H enc W base args ds gs before hval hW hk
theorem chainChecks_over : Rows.chainChecksUptoRow.holds Try.pinned (Rows.OpenSpec.upto Rows.chainChecksSpec) :=
  OpenClaim.holds_of_cond 15 Try.f15 rfl rfl rfl rfl rfl rfl rfl ⟨rfl, rfl, rfl, rfl, rfl⟩ rfl rfl rfl rfl rfl (by kernel_rfl) Try.func15 (by kernel_rfl)
    (of_decide_eq_true (by kernel_rfl)) (by unfold Func.isWrapper; first | (rw [if_pos (by decide +kernel)]; kernel_rfl) | (rw [if_neg (by decide +kernel)]; exact ⟨rfl, rfl⟩))
    (fun os started H enc _ F => chainChecks_lifted os started H enc F)
/-- The statement. -/
theorem chainChecks_holds : Rows.ChainChecksUptoSaid := chainChecks_over
#print axioms chainChecks_holds
end Go.Proofs.Ytbjelfgclhmedaa
