/- The law SigSigns returns true for every input that holds at most 1048576 values and letters, and each argument reads afterwards as it did. Its condition: that bound. -/
import Derived.Test.YtbjelfgclhmedaaRows
import Derived.Test.YtbjelfgclhmedaaBulk
import Derived.Test.YtbjelfgclhmedaaU24
import Derived.Test.YtbjelfgclhmedaaSxt
import Derived.Test.YtbjelfgclhmedaaSig
import Derived.WalkKit
import Derived.ProofKit
import Derived.OpenShut
import Derived.ShutString
import Derived.ChangeOld
import Derived.JoinedCond
import Derived.Below
set_option linter.all false
namespace Go.Proofs.Ytbjelfgclhmedaa
open Go.ChangeShapes Go.WideShapes Go.ChangeAt Go.RowKit
open Go.ChangeMaps (open_string shut_string)
open Go.Sx

theorem try_own : ownKnob Try.prog.godebug = none := by kernel_rfl
theorem try_laidOut : laidOutB Try.prog = true := by kernel_rfl

theorem sigSigns_walk (a0 : Int) (w0 : (Lit.int .i64 a0).wf = true) (v : Value) (pl : Sx.Place) (len : Nat) (B : Nat → BitVec 8) (v2 : Value) (a2 : Int) (D : Nat → BitVec 8) (hD2 : ∀ ρ, v2 = den ρ (.agg [.int .i64 a2, .fam 32 1 fun i => .int .u8 (nat (D i))])) (wa2 : (Lit.int .i64 a2).wf = true) (a3 : Int) (w3 : (Lit.int .i64 a3).wf = true) (w : World)
    (hD : ∀ ρ k, ρ k = pl → v = den ρ (.osl k 0 0 1 len) ∧ Holds ρ w k (.row false len 1 fun i => .int .u8 (nat (B i)))) (hlt : pl.nil = false → pl.b < w.heap.size) (hlen : len ≤ 1048576) :
    Calls Try.prog 7 #[.int .i64 a0, v, v2, .int .i64 a3] w fun e w' => e = .returned (.bool true) ∧ Below w.heap.size w w' := by
  have h := calls_of_callP (h := [.row false len 1 fun i => .int .u8 (nat (B i))]) (ρ := fun _ => pl) (w := w) Try.func7 (by kernel_rfl) rfl (models_row rfl (hD _ 0 rfl).2 (fun i _ => ⟨rfl, trivial, trivial⟩) hlt)
    (args := [.int .i64 a0, .osl 0 0 0 1 len, .agg [.int .i64 a2, .fam 32 1 fun i => .int .u8 (nat (D i))], .int .i64 a3]) (by simp [okL, ok, sz]) (c7l a0 a3 a2 D len (by omega) B _ fun _ => rfl)
  rw [(hD (fun _ => pl) 0 rfl).1, hD2 fun _ => pl]
  exact h

set_option maxRecDepth 100000 in
theorem sigSigns_contract (H : Type) (enc : TypeId × Value → H) (W : World) (base : Nat) (args : Array Value) (ds gs : List (DataW H)) (before : List MemPlace)
    (hval : ∀ (j : Nat) t v, Try.f7.params[j]? = some t → args[j]? = some v → Value.okWide Try.prog W .any base t v)
    (hW : DataW.Whole enc Try.prog Try.f7.params.toList Rows.sigSignsSpec.vars false W args.toList ds gs before) (hk : Rows.uptoSmall H (ds ++ gs) = true) :
    Calls Try.prog 7 args W fun e W' => ∃ v, e = .returned v ∧ Rows.sigSignsSpec.post enc Try.prog Try.f7 false true false false W args v W' := by
  have hW' := hW
  obtain ⟨p, q, hA0, hV, rfl, hfz, hnd⟩ := hW
  have hA : DataW.TrodAll enc Try.prog W 0 (fun _ => true) true Try.f7.params.toList args.toList ds p := hA0
  rw [Try.params7] at hA hval
  obtain ⟨v0, vs0, d0, ds0, p0, q0, hargs, rfl, rfl, h0, r0⟩ := trodAll_cons hA
  obtain ⟨v1, vs1, d1, ds1, p1, q1, rfl, rfl, rfl, h1, r1⟩ := trodAll_cons r0
  obtain ⟨v2, vs2, d2, ds2, p2, q2, rfl, rfl, rfl, h2, r2⟩ := trodAll_cons r1
  obtain ⟨v3, vs3, d3, ds3, p3, q3, rfl, rfl, rfl, h3, r3⟩ := trodAll_cons r2
  obtain ⟨rfl, rfl, rfl⟩ := trodAll_nil r3
  obtain rfl : args = #[v0, v1, v2, v3] := by cases args; simp_all
  obtain ⟨rfl, rfl⟩ := trodVars_none hV
  have hb := bulks.bound hk
  have k1 := h1
  have lt1 : ∀ x ∈ p1, x.block < W.heap.size := by obtain ⟨m, hm⟩ := k1; exact DataW.trod_lt m _ _ _ hm
  obtain ⟨pl1, len1, B1, hD1, hlt1, hle1⟩ := open_bytes Try.underlying25 Try.underlying5 (by kernel_rfl) (hval 1 25 v1 rfl rfl) h1
  have hlen1 : len1 ≤ 1048576 := by
    rcases hle1 with ⟨h, _⟩ | ⟨es, rs, h, h2⟩
    · omega
    · have h3 := bulks.part_le (d := d1) (l := [d0, d1, d2, d3] ++ []) (by simp)
      have h4 := bulks.slice_le es rs
      rw [h] at h3
      rw [h] at hb
      simp only [List.nil_append, List.append_nil] at h3 hb ⊢
      omega
  have k0 := h0
  have lt0 : ∀ x ∈ p0, x.block < W.heap.size := by obtain ⟨m, hm⟩ := k0; exact DataW.trod_lt m _ _ _ hm
  obtain ⟨a0, rfl, rfl, rfl, w0⟩ := open_int Try.underlying3 (hval 0 3 v0 rfl rfl) h0
  have k2 := h2
  have lt2 : ∀ x ∈ p2, x.block < W.heap.size := by obtain ⟨m, hm⟩ := k2; exact DataW.trod_lt m _ _ _ hm
  obtain ⟨a2, D2, hD2, wa2⟩ := open_sig (hval 2 40 v2 rfl rfl) h2
  have k3 := h3
  have lt3 : ∀ x ∈ p3, x.block < W.heap.size := by obtain ⟨m, hm⟩ := k3; exact DataW.trod_lt m _ _ _ hm
  obtain ⟨a3, rfl, rfl, rfl, w3⟩ := open_int Try.underlying3 (hval 3 3 v3 rfl rfl) h3
  clear hA0
  refine (sigSigns_walk a0 w0 v1 pl1 len1 B1 v2 a2 D2 hD2 wa2 a3 w3 W hD1 hlt1 hlen1).mono fun e W' ⟨he, bel⟩ => ?_
  subst he
  exact ⟨_, rfl, _, _, _, [], _, [], hW', trodAll_mk1 (shut_bool Try.underlying4 _), (trodAll_cons_mk (Below.trod try_laidOut (by kernel_rfl) (of_decide_eq_true (by kernel_rfl)) k0 bel lt0) (trodAll_cons_mk (Below.trod try_laidOut (by kernel_rfl) (of_decide_eq_true (by kernel_rfl)) k1 bel lt1) (trodAll_cons_mk (Below.trod try_laidOut (by kernel_rfl) (of_decide_eq_true (by kernel_rfl)) k2 bel lt2) (trodAll_cons_mk (Below.trod try_laidOut (by kernel_rfl) (of_decide_eq_true (by kernel_rfl)) k3 bel lt3) trodAll_mk0)))), rfl, bel.frame _, fun h => by cases h⟩
set_option maxRecDepth 100000 in
theorem sigSigns_lifted (os : Os) (started : os.Started) (H : Type) (enc : TypeId × Value → H) (F : Stop.Interp) :
    ReturnsInHanded {} Try.checked os 7 .any ((Rows.OpenSpec.upto Rows.sigSignsSpec).pre6 enc Try.prog Try.f7 Rows.sigSignsUptoRow.domain false) (((Rows.OpenSpec.upto Rows.sigSignsSpec).at F).post enc Try.prog Try.f7 false true false false) := by
  refine returnsInHanded_of_cond (C := Try.checked) (s := Rows.OpenSpec.upto Rows.sigSignsSpec) (k := Rows.uptoSmall) rfl try_own started (by kernel_rfl) Try.func7
    (OpenSpec.witness (enc := enc) (C := Try.checked) (s := Rows.OpenSpec.upto Rows.sigSignsSpec) (k := Rows.uptoSmall) rfl false ⟨#[], #[.int .i64 0, .slice none 0 0, .agg (#[.int .i64 0] ++ Array.replicate 32 (.int .u8 0)), .int .i64 0], []⟩ 8 (by kernel_rfl) (by kernel_rfl) (by kernel_rfl)
      (x := ([.lit (.int .i64 0), .nil, .agg [.lit (.int .i64 0), .agg (List.replicate 32 (.lit (.int .u8 0)))], .lit (.int .i64 0)], [], [])) (by kernel_rfl) rfl (by kernel_rfl)) ?_
  intro W base args ds gs before hval hW _ hk _
  exact sigSigns_contract H enc W base args ds gs before hval hW hk
theorem sigSigns_over : Rows.sigSignsUptoRow.holds Try.pinned (Rows.OpenSpec.upto Rows.sigSignsSpec) :=
  OpenClaim.holds_of_cond 7 Try.f7 rfl rfl rfl rfl rfl rfl rfl ⟨rfl, rfl, rfl, rfl, rfl⟩ rfl rfl rfl rfl rfl (by kernel_rfl) Try.func7 (by kernel_rfl)
    (of_decide_eq_true (by kernel_rfl)) (by unfold Func.isWrapper; first | (rw [if_pos (by decide +kernel)]; kernel_rfl) | (rw [if_neg (by decide +kernel)]; exact ⟨rfl, rfl⟩))
    (fun os started H enc _ F => sigSigns_lifted os started H enc F)
/-- The statement. -/
theorem sigSigns_holds : Rows.SigSignsUptoSaid := sigSigns_over
#print axioms sigSigns_holds
end Go.Proofs.Ytbjelfgclhmedaa
