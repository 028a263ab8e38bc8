/- The law MessageDecodes returns true for every input, and each argument reads afterwards as it did. No condition. -/
import Derived.Test.YtgocfglmideobaaRows
import Derived.Test.YtgocfglmideobaaMh
import Derived.Test.YtgocfglmideobaaMe
import Derived.Test.YtgocfglmideobaaMc
import Derived.WalkKit
import Derived.ProofKit
import Derived.OpenShut
import Derived.ShutString
import Derived.ChangeOld
import Derived.JoinedCond
import Derived.Below
set_option linter.all false
namespace Go.Proofs.Ytgocfglmideobaa
open Go Go.ChangeShapes Go.WideShapes Go.ChangeAt Go.RowKit
open Go.ChangeMaps (open_string shut_string)
open Go.Sx

theorem try_own : ownKnob Try.prog.godebug = none := by kernel_rfl
theorem try_laidOut : laidOutB Try.prog = true := by kernel_rfl

theorem messageDecodes_walk {v : Value} {w : World} {ps : List Sx.Place} {hh : List Chunk} {b : List By} {sv : SV} (hL : Lies w 0 ps hh) (hb : RelBs (sp 0 hh) b sv) (hok : ok (0 + hh.length) sv) (hD : ∀ ρ, At ρ 0 ps → v = den ρ sv) :
  Calls Try.prog 7 #[v] w fun e w' => e = .returned (.bool true) ∧ Below w.heap.size w w' := by
 rw [sp_zero] at hb
 rw [Nat.zero_add] at hok
 have hA : At (fun k => ps.getD k ⟨0, 0, 0, true, none⟩) 0 ps := models_at
 have h := calls_of_callP (h := hh) (w := w) Try.func7 (by kernel_rfl) rfl (hL.models hA) (args := [sv]) (by simpa [okL] using hok) (c7 b hh sv hb _ fun _ => rfl)
 rw [hD _ hA]
 exact h

set_option maxRecDepth 100000 in
theorem messageDecodes_lifted (os : Os) (started : os.Started) (H : Type) (enc : TypeId × Value → H) :
  ReturnsInHanded {} Try.checked os 7 .any (Rows.messageDecodesSpec.pre6 enc Try.prog Try.f7 Rows.messageDecodesRow.domain false) (Rows.messageDecodesSpec.post enc Try.prog Try.f7 false true false false) := by
 refine returnsInHanded_of_change (C := Try.checked) try_own started (by kernel_rfl) Try.func7
  (ChangeSpec.witness6 (enc := enc) (C := Try.checked) false ⟨#[], #[.slice none 0 0], []⟩ 8 (by kernel_rfl) (by kernel_rfl) (by kernel_rfl) (by kernel_rfl)) ?_
 intro W base args ds gs before hval0 hW hcnd _
 have hval : ∀ (j : Nat) t v, Try.f7.params[j]? = some t → args[j]? = some v → Value.okWide Try.prog W .any base t v := hval0
 have hW' := hW
 obtain ⟨p, q, hA0, hV, rfl, hfz, hnd⟩ := hW
 have hA : DataW.TrodAll enc Try.prog W 0 (fun _ => true) true Try.f7.params.toList args.toList ds p := hA0
 rw [Try.params7] at hA hval
 obtain ⟨v0, vs0, d0, ds0, p0, q0, hargs, rfl, rfl, h0, r0⟩ := trodAll_cons hA
 obtain ⟨rfl, rfl, rfl⟩ := trodAll_nil r0
 obtain rfl : args = #[v0] := by cases args; simp_all
 obtain ⟨rfl, rfl⟩ := trodVars_none hV
 have k0 := h0
 have lt0 : ∀ x ∈ p0, x.block < W.heap.size := by obtain ⟨m, hm⟩ := k0; exact DataW.trod_lt m _ _ _ hm
 obtain ⟨ps0, hh0, b0, sv0, hL0, hR0, hok0, hD0, hs0⟩ := open_bytesK (hval 0 24 v0 rfl rfl) h0 0
 clear hA0 hval0
 refine (messageDecodes_walk hL0 hR0 hok0 hD0).mono fun e W' ⟨he, bel⟩ => ?_
 subst he
 exact ⟨_, rfl, _, _, _, [], _, [], hW', trodAll_mk1 (shut_bool Try.underlying4 _), (trodAll_cons_mk (Below.trod try_laidOut (by kernel_rfl) (of_decide_eq_true (by kernel_rfl)) k0 bel lt0) trodAll_mk0), rfl, bel.frame _, fun h => by cases h⟩
theorem messageDecodes_over : Rows.messageDecodesRow.holds Try.pinned (OpenSpec.ofChange Rows.messageDecodesSpec) :=
 OpenClaim.holds_of_wide 7 Try.f7 rfl rfl rfl rfl rfl rfl rfl ⟨rfl, rfl, rfl, rfl, rfl⟩ rfl rfl rfl rfl rfl (by kernel_rfl) Try.func7 (by kernel_rfl)
  (of_decide_eq_true (by kernel_rfl)) (by unfold Func.isWrapper; first | (rw [if_pos (by decide +kernel)]; kernel_rfl) | (rw [if_neg (by decide +kernel)]; exact ⟨rfl, rfl⟩))
  (fun os started H enc _ => messageDecodes_lifted os started H enc)
/-- The statement. -/
theorem messageDecodes_holds : Rows.MessageDecodesSaid := messageDecodes_over
#print axioms messageDecodes_holds
end Go.Proofs.Ytgocfglmideobaa
