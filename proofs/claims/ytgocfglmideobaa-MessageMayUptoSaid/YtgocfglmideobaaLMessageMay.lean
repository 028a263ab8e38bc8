/- The law MessageMay returns true for every input that holds at most 1048576 values and letters, and each argument reads afterwards as it did. Its condition: that bound. -/
import Derived.Test.YtgocfglmideobaaRows
import Derived.Test.YtgocfglmideobaaMc
import Derived.Test.YtgocfglmideobaaMh
import Derived.Test.YtgocfglmideobaaMg
import Derived.WalkKit
import Derived.ProofKit
import Derived.OpenShut
import Derived.ShutString
import Derived.ChangeOld
import Derived.JoinedCond
import Derived.Below
set_option linter.all false
namespace Go.Proofs.Ytgocfglmideobaa
open Go Go.ChangeShapes Go.WideShapes Go.ChangeAt Go.RowKit
open Go.ChangeMaps (open_string shut_string)
open Go.Sx

theorem try_own : ownKnob Try.prog.godebug = none := by kernel_rfl
theorem try_laidOut : laidOutB Try.prog = true := by kernel_rfl

theorem messageMay_walk {v : Value} {w : World} {ps : List Sx.Place} {hh : List Chunk} {m : Msg} {l : List SV} (hL : Lies w 0 ps hh) (hm : MsgH hh m l) (ho : wfM m) (hok : okL hh.length l) (hD : ∀ ρ, At ρ 0 ps → v = den ρ (.agg l)) (hs : blkM m ≤ 1048576) :
    Calls Try.prog 3 #[v] w fun e w' => e = .returned (.bool true) ∧ Below w.heap.size w w' := by
  have hA : At (fun k => ps.getD k ⟨0, 0, 0, true, none⟩) 0 ps := fun i p hp => by simp [hp]
  have h := calls_of_callP (h := hh) (w := w) Try.func3 (by kernel_rfl) rfl (hL.models hA) (args := [.agg l]) (by simpa [okL, ok] using hok) (c3 m ho hs l hh hm _ fun _ => rfl)
  rw [hD _ hA]
  exact h

set_option maxRecDepth 100000 in
theorem messageMay_contract (H : Type) (enc : TypeId × Value → H) (W : World) (base : Nat) (args : Array Value) (ds gs : List (DataW H)) (before : List MemPlace)
    (hval : ∀ (j : Nat) t v, Try.f3.params[j]? = some t → args[j]? = some v → Value.okWide Try.prog W .any base t v)
    (hW : DataW.Whole enc Try.prog Try.f3.params.toList Rows.messageMaySpec.vars false W args.toList ds gs before) (hk : Rows.uptoSmall H (ds ++ gs) = true) :
    Calls Try.prog 3 args W fun e W' => ∃ v, e = .returned v ∧ Rows.messageMaySpec.post enc Try.prog Try.f3 false true false false W args v W' := by
  have hW' := hW
  obtain ⟨p, q, hA0, hV, rfl, hfz, hnd⟩ := hW
  have hA : DataW.TrodAll enc Try.prog W 0 (fun _ => true) true Try.f3.params.toList args.toList ds p := hA0
  rw [Try.params3] at hA hval
  obtain ⟨v0, vs0, d0, ds0, p0, q0, hargs, rfl, rfl, h0, r0⟩ := trodAll_cons hA
  obtain ⟨rfl, rfl, rfl⟩ := trodAll_nil r0
  obtain rfl : args = #[v0] := by cases args; simp_all
  obtain ⟨rfl, rfl⟩ := trodVars_none hV
  have hb := bulks.bound hk
  have k0 := h0
  have lt0 : ∀ x ∈ p0, x.block < W.heap.size := by obtain ⟨m, hm⟩ := k0; exact DataW.trod_lt m _ _ _ hm
  have bd0 : Rows.uptoBulk d0 ≤ 1048576 := Nat.le_trans (bulks.part_le (d := d0) (l := [d0] ++ []) (by simp)) hb
  obtain ⟨ps0, hh0, m0, l0, hL0, hm0, ho0, hok0, hD0, hs0⟩ := open_msg (hval 0 31 v0 rfl rfl) h0
  clear hA0
  refine (messageMay_walk hL0 hm0 ho0 hok0 hD0 (Nat.le_trans hs0 bd0)).mono fun e W' ⟨he, bel⟩ => ?_
  subst he
  exact ⟨_, rfl, _, _, _, [], _, [], hW', trodAll_mk1 (shut_bool Try.underlying4 _), (trodAll_cons_mk (Below.trod try_laidOut (by kernel_rfl) (of_decide_eq_true (by kernel_rfl)) k0 bel lt0) trodAll_mk0), rfl, bel.frame _, fun h => by cases h⟩
set_option maxRecDepth 100000 in
theorem messageMay_lifted (os : Os) (started : os.Started) (H : Type) (enc : TypeId × Value → H) (F : Stop.Interp) :
    ReturnsInHanded {} Try.checked os 3 .any ((Rows.OpenSpec.upto Rows.messageMaySpec).pre6 enc Try.prog Try.f3 Rows.messageMayUptoRow.domain false) (((Rows.OpenSpec.upto Rows.messageMaySpec).at F).post enc Try.prog Try.f3 false true false false) := by
  refine returnsInHanded_of_cond (C := Try.checked) (s := Rows.OpenSpec.upto Rows.messageMaySpec) (k := Rows.uptoSmall) rfl try_own started (by kernel_rfl) Try.func3
    (OpenSpec.witness (enc := enc) (C := Try.checked) (s := Rows.OpenSpec.upto Rows.messageMaySpec) (k := Rows.uptoSmall) rfl false ⟨#[], #[.agg (#[.int .i64 0, .int .i64 0, .int .i64 0, .int .i64 0] ++ Array.replicate 32 (.int .u8 0) ++ #[.slice none 0 0, .slice none 0 0, .slice none 0 0, .slice none 0 0, .int .i64 0] ++ Array.replicate 32 (.int .u8 0))], []⟩ 8 (by kernel_rfl) (by kernel_rfl) (by kernel_rfl)
      (x := ([.agg [.lit (.int .i64 0), .lit (.int .i64 0), .lit (.int .i64 0), .lit (.int .i64 0), .agg (List.replicate 32 (.lit (.int .u8 0))), .nil, .nil, .nil, .nil, .agg [.lit (.int .i64 0), .agg (List.replicate 32 (.lit (.int .u8 0)))]]], [], [])) (by kernel_rfl) rfl (by kernel_rfl)) ?_
  intro W base args ds gs before hval hW _ hk _
  exact messageMay_contract H enc W base args ds gs before hval hW hk
theorem messageMay_over : Rows.messageMayUptoRow.holds Try.pinned (Rows.OpenSpec.upto Rows.messageMaySpec) :=
  OpenClaim.holds_of_cond 3 Try.f3 rfl rfl rfl rfl rfl rfl rfl ⟨rfl, rfl, rfl, rfl, rfl⟩ rfl rfl rfl rfl rfl (by kernel_rfl) Try.func3 (by kernel_rfl)
    (of_decide_eq_true (by kernel_rfl)) (by unfold Func.isWrapper; first | (rw [if_pos (by decide +kernel)]; kernel_rfl) | (rw [if_neg (by decide +kernel)]; exact ⟨rfl, rfl⟩))
    (fun os started H enc _ F => messageMay_lifted os started H enc F)
/-- The statement. -/
theorem messageMay_holds : Rows.MessageMayUptoSaid := messageMay_over
#print axioms messageMay_holds
end Go.Proofs.Ytgocfglmideobaa
