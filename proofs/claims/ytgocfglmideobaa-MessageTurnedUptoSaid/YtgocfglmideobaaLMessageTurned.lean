/- The law MessageTurned returns true for every input that holds at most 1048576 values and letters, and each argument reads afterwards as it did. Its condition: that bound. -/
import Derived.Test.YtgocfglmideobaaRows
import Derived.Test.YtgocfglmideobaaMa
import Derived.Test.YtgocfglmideobaaMi
import Derived.Test.YtgocfglmideobaaMe
import Derived.Test.YtgocfglmideobaaMc
import Derived.WalkKit
import Derived.ProofKit
import Derived.OpenShut
import Derived.ShutString
import Derived.ChangeOld
import Derived.JoinedCond
import Derived.Below
set_option linter.all false
namespace Go.Proofs.Ytgocfglmideobaa
open Go Go.ChangeShapes Go.WideShapes Go.ChangeAt Go.RowKit
open Go.ChangeMaps (open_string shut_string)
open Go.Sx

theorem try_own : ownKnob Try.prog.godebug = none := by kernel_rfl
theorem try_laidOut : laidOutB Try.prog = true := by kernel_rfl

theorem messageTurned_walk {v0 v1 v4 : Value} {w : World} {p0 p1 p4 : List Sx.Place} {h0 h1 h4 : List Chunk} {m : Msg} {X : List Int} {b : List By} {s0 s1 s4 : SV}
  (hL0 : Lies w 0 p0 h0) (hR0 : RelM (sp 0 h0) m s0) (hk0 : ok (0 + h0.length) s0) (hD0 : ∀ ρ, At ρ 0 p0 → v0 = den ρ s0) (hs0 : blkM m ≤ 1048576)
  (hL1 : Lies w (0 + h0.length) p1 h1) (hR1 : RelIs (sp (0 + h0.length) h1) X s1) (hk1 : ok (0 + h0.length + h1.length) s1) (hD1 : ∀ ρ, At ρ (0 + h0.length) p1 → v1 = den ρ s1) (hs1 : X.length ≤ 1048576)
  (a2 : Int) (w2 : (Lit.int .u8 a2).wf = true) (a3 : Int) (w3 : (Lit.int .i64 a3).wf = true)
  (hL4 : Lies w (0 + h0.length + h1.length) p4 h4) (hR4 : RelBs (sp (0 + h0.length + h1.length) h4) b s4) (hk4 : ok (0 + h0.length + h1.length + h4.length) s4) (hD4 : ∀ ρ, At ρ (0 + h0.length + h1.length) p4 → v4 = den ρ s4) (hs4 : b.length ≤ 1048576) :
  Calls Try.prog 8 #[v0, v1, .int .u8 a2, .int .i64 a3, v4] w fun e w' => e = .returned (.bool true) ∧ Below w.heap.size w w' := by
 have hL := lies3 hL0 hL1 hL4
 have hA : At (fun k => (p0 ++ p1 ++ p4).getD k ⟨0, 0, 0, true, none⟩) 0 (p0 ++ p1 ++ p4) := models_at
 have e0 := hD0 _ (at3a hA)
 have e1 := hD1 _ (at3b hA hL0.len)
 have e4 := hD4 _ (at3c hA hL0.len hL1.len)
 have R0 := RelM.mono _ _ _ _ (in3a h0 h1 h4) hR0
 have R1 := RelIs.mono (in3b h0 h1 h4) hR1
 have R4 := RelBs.mono _ _ _ _ (in3c h0 h1 h4) hR4
 have hlen : (h0 ++ h1 ++ h4).length = h0.length + h1.length + h4.length := by rw [List.length_append, List.length_append]
 have k0 := ok_mono (show 0 + h0.length ≤ (h0 ++ h1 ++ h4).length by omega) _ hk0
 have k1 := ok_mono (show 0 + h0.length + h1.length ≤ (h0 ++ h1 ++ h4).length by omega) _ hk1
 have k4 := ok_mono (show 0 + h0.length + h1.length + h4.length ≤ (h0 ++ h1 ++ h4).length by omega) _ hk4
 obtain ⟨l, rfl, hm, hw⟩ := R0
 obtain ⟨kp, rfl, hp, hPr⟩ := R1
 rw [wf_u8 w2]
 have h := calls_of_callP (h := h0 ++ h1 ++ h4) (w := w) Try.func8 (by kernel_rfl) rfl (hL.models hA) (args := [.agg l, .osl kp 0 0 1 X.length, .int .u8 (nat (BitVec.ofInt 8 a2)), .int .i64 a3, s4]) ⟨k0, k1, trivial, trivial, k4, trivial⟩ (c8 m hw hs0 l kp X.length false (fun i => X.getD i 0) (BitVec.ofInt 8 a2) a3 (rng_wf w3) b hs4 s4 _ hm hp hs1 hPr R4 _ fun _ => rfl)
 rw [e0, e1, e4]
 exact h

set_option maxRecDepth 100000 in
theorem messageTurned_contract (H : Type) (enc : TypeId × Value → H) (W : World) (base : Nat) (args : Array Value) (ds gs : List (DataW H)) (before : List MemPlace)
  (hval : ∀ (j : Nat) t v, Try.f8.params[j]? = some t → args[j]? = some v → Value.okWide Try.prog W .any base t v)
  (hW : DataW.Whole enc Try.prog Try.f8.params.toList Rows.messageTurnedSpec.vars false W args.toList ds gs before) (hk : Rows.uptoSmall H (ds ++ gs) = true) :
  Calls Try.prog 8 args W fun e W' => ∃ v, e = .returned v ∧ Rows.messageTurnedSpec.post enc Try.prog Try.f8 false true false false W args v W' := by
 have hW' := hW
 obtain ⟨p, q, hA0, hV, rfl, hfz, hnd⟩ := hW
 have hA : DataW.TrodAll enc Try.prog W 0 (fun _ => true) true Try.f8.params.toList args.toList ds p := hA0
 rw [Try.params8] at hA hval
 obtain ⟨v0, vs0, d0, ds0, p0, q0, hargs, rfl, rfl, h0, r0⟩ := trodAll_cons hA
 obtain ⟨v1, vs1, d1, ds1, p1, q1, rfl, rfl, rfl, h1, r1⟩ := trodAll_cons r0
 obtain ⟨v2, vs2, d2, ds2, p2, q2, rfl, rfl, rfl, h2, r2⟩ := trodAll_cons r1
 obtain ⟨v3, vs3, d3, ds3, p3, q3, rfl, rfl, rfl, h3, r3⟩ := trodAll_cons r2
 obtain ⟨v4, vs4, d4, ds4, p4, q4, rfl, rfl, rfl, h4, r4⟩ := trodAll_cons r3
 obtain ⟨rfl, rfl, rfl⟩ := trodAll_nil r4
 obtain rfl : args = #[v0, v1, v2, v3, v4] := by cases args; simp_all
 obtain ⟨rfl, rfl⟩ := trodVars_none hV
 have hb := bulks.bound hk
 have k0 := h0
 have lt0 : ∀ x ∈ p0, x.block < W.heap.size := by obtain ⟨m, hm⟩ := k0; exact DataW.trod_lt m _ _ _ hm
 have bd0 : Rows.uptoBulk d0 ≤ 1048576 := Nat.le_trans (bulks.part_le (d := d0) (l := [d0, d1, d2, d3, d4] ++ []) (by simp)) hb
 have k1 := h1
 have lt1 : ∀ x ∈ p1, x.block < W.heap.size := by obtain ⟨m, hm⟩ := k1; exact DataW.trod_lt m _ _ _ hm
 have bd1 : Rows.uptoBulk d1 ≤ 1048576 := Nat.le_trans (bulks.part_le (d := d1) (l := [d0, d1, d2, d3, d4] ++ []) (by simp)) hb
 have k2 := h2
 have lt2 : ∀ x ∈ p2, x.block < W.heap.size := by obtain ⟨m, hm⟩ := k2; exact DataW.trod_lt m _ _ _ hm
 have bd2 : Rows.uptoBulk d2 ≤ 1048576 := Nat.le_trans (bulks.part_le (d := d2) (l := [d0, d1, d2, d3, d4] ++ []) (by simp)) hb
 have k3 := h3
 have lt3 : ∀ x ∈ p3, x.block < W.heap.size := by obtain ⟨m, hm⟩ := k3; exact DataW.trod_lt m _ _ _ hm
 have bd3 : Rows.uptoBulk d3 ≤ 1048576 := Nat.le_trans (bulks.part_le (d := d3) (l := [d0, d1, d2, d3, d4] ++ []) (by simp)) hb
 have k4 := h4
 have lt4 : ∀ x ∈ p4, x.block < W.heap.size := by obtain ⟨m, hm⟩ := k4; exact DataW.trod_lt m _ _ _ hm
 have bd4 : Rows.uptoBulk d4 ≤ 1048576 := Nat.le_trans (bulks.part_le (d := d4) (l := [d0, d1, d2, d3, d4] ++ []) (by simp)) hb
 obtain ⟨ps0, hh0, b0, sv0, hL0, hR0, hok0, hD0, hs0⟩ := open_msgK (hval 0 31 v0 rfl rfl) h0 0
 obtain ⟨ps1, hh1, b1, sv1, hL1, hR1, hok1, hD1, hs1⟩ := open_intsK (hval 1 48 v1 rfl rfl) h1 (0 + hh0.length)
 obtain ⟨a2, rfl, rfl, rfl, w2⟩ := open_int Try.underlying5 (hval 2 5 v2 rfl rfl) h2
 obtain ⟨a3, rfl, rfl, rfl, w3⟩ := open_int Try.underlying3 (hval 3 3 v3 rfl rfl) h3
 obtain ⟨ps4, hh4, b4, sv4, hL4, hR4, hok4, hD4, hs4⟩ := open_bytesK (hval 4 24 v4 rfl rfl) h4 (0 + hh0.length + hh1.length)
 clear hA0
 refine (messageTurned_walk hL0 hR0 hok0 hD0 (Nat.le_trans hs0 bd0) hL1 hR1 hok1 hD1 (Nat.le_trans hs1 bd1) a2 w2 a3 w3 hL4 hR4 hok4 hD4 (Nat.le_trans hs4 bd4)).mono fun e W' ⟨he, bel⟩ => ?_
 subst he
 exact ⟨_, rfl, _, _, _, [], _, [], hW', trodAll_mk1 (shut_bool Try.underlying4 _), (trodAll_cons_mk (Below.trod try_laidOut (by kernel_rfl) (of_decide_eq_true (by kernel_rfl)) k0 bel lt0) (trodAll_cons_mk (Below.trod try_laidOut (by kernel_rfl) (of_decide_eq_true (by kernel_rfl)) k1 bel lt1) (trodAll_cons_mk (Below.trod try_laidOut (by kernel_rfl) (of_decide_eq_true (by kernel_rfl)) k2 bel lt2) (trodAll_cons_mk (Below.trod try_laidOut (by kernel_rfl) (of_decide_eq_true (by kernel_rfl)) k3 bel lt3) (trodAll_cons_mk (Below.trod try_laidOut (by kernel_rfl) (of_decide_eq_true (by kernel_rfl)) k4 bel lt4) trodAll_mk0))))), rfl, bel.frame _, fun h => by cases h⟩
set_option maxRecDepth 100000 in
theorem messageTurned_lifted (os : Os) (started : os.Started) (H : Type) (enc : TypeId × Value → H) (F : Stop.Interp) :
  ReturnsInHanded {} Try.checked os 8 .any ((Rows.OpenSpec.upto Rows.messageTurnedSpec).pre6 enc Try.prog Try.f8 Rows.messageTurnedUptoRow.domain false) (((Rows.OpenSpec.upto Rows.messageTurnedSpec).at F).post enc Try.prog Try.f8 false true false false) := by
 refine returnsInHanded_of_cond (C := Try.checked) (s := Rows.OpenSpec.upto Rows.messageTurnedSpec) (k := Rows.uptoSmall) rfl try_own started (by kernel_rfl) Try.func8
  (OpenSpec.witness (enc := enc) (C := Try.checked) (s := Rows.OpenSpec.upto Rows.messageTurnedSpec) (k := Rows.uptoSmall) rfl false ⟨#[], #[.agg (#[.int .i64 0, .int .i64 0, .int .i64 0, .int .i64 0] ++ Array.replicate 32 (.int .u8 0) ++ #[.slice none 0 0, .slice none 0 0, .slice none 0 0, .slice none 0 0, .int .i64 0] ++ Array.replicate 32 (.int .u8 0)), .slice none 0 0, .int .u8 0, .int .i64 0, .slice none 0 0], []⟩ 8 (by kernel_rfl) (by kernel_rfl) (by kernel_rfl)
   (x := ([.agg [.lit (.int .i64 0), .lit (.int .i64 0), .lit (.int .i64 0), .lit (.int .i64 0), .agg (List.replicate 32 (.lit (.int .u8 0))), .nil, .nil, .nil, .nil, .agg [.lit (.int .i64 0), .agg (List.replicate 32 (.lit (.int .u8 0)))]], .nil, .lit (.int .u8 0), .lit (.int .i64 0), .nil], [], [])) (by kernel_rfl) rfl (by kernel_rfl)) ?_
 intro W base args ds gs before hval hW _ hk _
 exact messageTurned_contract H enc W base args ds gs before hval hW hk
theorem messageTurned_over : Rows.messageTurnedUptoRow.holds Try.pinned (Rows.OpenSpec.upto Rows.messageTurnedSpec) :=
 OpenClaim.holds_of_cond 8 Try.f8 rfl rfl rfl rfl rfl rfl rfl ⟨rfl, rfl, rfl, rfl, rfl⟩ rfl rfl rfl rfl rfl (by kernel_rfl) Try.func8 (by kernel_rfl)
  (of_decide_eq_true (by kernel_rfl)) (by unfold Func.isWrapper; first | (rw [if_pos (by decide +kernel)]; kernel_rfl) | (rw [if_neg (by decide +kernel)]; exact ⟨rfl, rfl⟩))
  (fun os started H enc _ F => messageTurned_lifted os started H enc F)
/-- The statement. -/
theorem messageTurned_holds : Rows.MessageTurnedUptoSaid := messageTurned_over
#print axioms messageTurned_holds
end Go.Proofs.Ytgocfglmideobaa
