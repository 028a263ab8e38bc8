/- The law MessageBack returns true for every input that holds at most 1048576 values and letters, and each argument reads afterwards as it did. Its condition: that bound. -/
import Derived.Test.YtgocfglmideobaaRows
import Derived.Test.YtgocfglmideobaaMa
import Derived.Test.YtgocfglmideobaaMi
import Derived.Test.YtgocfglmideobaaMe
import Derived.Test.YtgocfglmideobaaMc
import Derived.WalkKit
import Derived.ProofKit
import Derived.OpenShut
import Derived.ShutString
import Derived.ChangeOld
import Derived.JoinedCond
import Derived.Below
set_option linter.all false
namespace Go.Proofs.Ytgocfglmideobaa
open Go Go.ChangeShapes Go.WideShapes Go.ChangeAt Go.RowKit
open Go.ChangeMaps (open_string shut_string)
open Go.Sx

theorem try_own : ownKnob Try.prog.godebug = none := by kernel_rfl
theorem try_laidOut : laidOutB Try.prog = true := by kernel_rfl

theorem messageBack_walk {v0 v2 v3 : Value} {w : World} {p0 p2 p3 : List Sx.Place} {h0 h2 h3 : List Chunk} {m : Msg} {b2 b3 : List By} {s0 s2 s3 : SV}
  (hL0 : Lies w 0 p0 h0) (hR0 : RelM (sp 0 h0) m s0) (hk0 : ok (0 + h0.length) s0) (hD0 : ∀ ρ, At ρ 0 p0 → v0 = den ρ s0) (hs0 : blkM m ≤ 1048576)
  (a1 : Int) (w1 : (Lit.int .i64 a1).wf = true)
  (hL2 : Lies w (0 + h0.length) p2 h2) (hR2 : RelBs (sp (0 + h0.length) h2) b2 s2) (hk2 : ok (0 + h0.length + h2.length) s2) (hD2 : ∀ ρ, At ρ (0 + h0.length) p2 → v2 = den ρ s2) (hs2 : b2.length ≤ 1048576)
  (hL3 : Lies w (0 + h0.length + h2.length) p3 h3) (hR3 : RelBs (sp (0 + h0.length + h2.length) h3) b3 s3) (hk3 : ok (0 + h0.length + h2.length + h3.length) s3) (hD3 : ∀ ρ, At ρ (0 + h0.length + h2.length) p3 → v3 = den ρ s3) (hs3 : b3.length ≤ 1048576) :
  Calls Try.prog 10 #[v0, .int .i64 a1, v2, v3] w fun e w' => e = .returned (.bool true) ∧ Below w.heap.size w w' := by
 have hL := lies3 hL0 hL2 hL3
 have hA : At (fun k => (p0 ++ p2 ++ p3).getD k ⟨0, 0, 0, true, none⟩) 0 (p0 ++ p2 ++ p3) := models_at
 have e0 := hD0 _ (at3a hA)
 have e2 := hD2 _ (at3b hA hL0.len)
 have e3 := hD3 _ (at3c hA hL0.len hL2.len)
 have R0 := RelM.mono _ _ _ _ (in3a h0 h2 h3) hR0
 have R2 := RelBs.mono _ _ _ _ (in3b h0 h2 h3) hR2
 have R3 := RelBs.mono _ _ _ _ (in3c h0 h2 h3) hR3
 have hlen : (h0 ++ h2 ++ h3).length = h0.length + h2.length + h3.length := by rw [List.length_append, List.length_append]
 have k0 := ok_mono (show 0 + h0.length ≤ (h0 ++ h2 ++ h3).length by omega) _ hk0
 have k2 := ok_mono (show 0 + h0.length + h2.length ≤ (h0 ++ h2 ++ h3).length by omega) _ hk2
 have k3 := ok_mono (show 0 + h0.length + h2.length + h3.length ≤ (h0 ++ h2 ++ h3).length by omega) _ hk3
 obtain ⟨l, rfl, hm, hw⟩ := R0
 have h := calls_of_callP (h := h0 ++ h2 ++ h3) (w := w) Try.func10 (by kernel_rfl) rfl (hL.models hA) (args := [.agg l, .int .i64 a1, s2, s3]) ⟨k0, trivial, k2, k3, trivial⟩ (c10 m hw hs0 l a1 (rng_wf w1) b2 b3 hs2 hs3 s2 s3 _ hm R2 R3 _ fun _ => rfl)
 rw [e0, e2, e3]
 exact h

set_option maxRecDepth 100000 in
theorem messageBack_contract (H : Type) (enc : TypeId × Value → H) (W : World) (base : Nat) (args : Array Value) (ds gs : List (DataW H)) (before : List MemPlace)
  (hval : ∀ (j : Nat) t v, Try.f10.params[j]? = some t → args[j]? = some v → Value.okWide Try.prog W .any base t v)
  (hW : DataW.Whole enc Try.prog Try.f10.params.toList Rows.messageBackSpec.vars false W args.toList ds gs before) (hk : Rows.uptoSmall H (ds ++ gs) = true) :
  Calls Try.prog 10 args W fun e W' => ∃ v, e = .returned v ∧ Rows.messageBackSpec.post enc Try.prog Try.f10 false true false false W args v W' := by
 have hW' := hW
 obtain ⟨p, q, hA0, hV, rfl, hfz, hnd⟩ := hW
 have hA : DataW.TrodAll enc Try.prog W 0 (fun _ => true) true Try.f10.params.toList args.toList ds p := hA0
 rw [Try.params10] at hA hval
 obtain ⟨v0, vs0, d0, ds0, p0, q0, hargs, rfl, rfl, h0, r0⟩ := trodAll_cons hA
 obtain ⟨v1, vs1, d1, ds1, p1, q1, rfl, rfl, rfl, h1, r1⟩ := trodAll_cons r0
 obtain ⟨v2, vs2, d2, ds2, p2, q2, rfl, rfl, rfl, h2, r2⟩ := trodAll_cons r1
 obtain ⟨v3, vs3, d3, ds3, p3, q3, rfl, rfl, rfl, h3, r3⟩ := trodAll_cons r2
 obtain ⟨rfl, rfl, rfl⟩ := trodAll_nil r3
 obtain rfl : args = #[v0, v1, v2, v3] := by cases args; simp_all
 obtain ⟨rfl, rfl⟩ := trodVars_none hV
 have hb := bulks.bound hk
 have k0 := h0
 have lt0 : ∀ x ∈ p0, x.block < W.heap.size := by obtain ⟨m, hm⟩ := k0; exact DataW.trod_lt m _ _ _ hm
 have bd0 : Rows.uptoBulk d0 ≤ 1048576 := Nat.le_trans (bulks.part_le (d := d0) (l := [d0, d1, d2, d3] ++ []) (by simp)) hb
 have k1 := h1
 have lt1 : ∀ x ∈ p1, x.block < W.heap.size := by obtain ⟨m, hm⟩ := k1; exact DataW.trod_lt m _ _ _ hm
 have bd1 : Rows.uptoBulk d1 ≤ 1048576 := Nat.le_trans (bulks.part_le (d := d1) (l := [d0, d1, d2, d3] ++ []) (by simp)) hb
 have k2 := h2
 have lt2 : ∀ x ∈ p2, x.block < W.heap.size := by obtain ⟨m, hm⟩ := k2; exact DataW.trod_lt m _ _ _ hm
 have bd2 : Rows.uptoBulk d2 ≤ 1048576 := Nat.le_trans (bulks.part_le (d := d2) (l := [d0, d1, d2, d3] ++ []) (by simp)) hb
 have k3 := h3
 have lt3 : ∀ x ∈ p3, x.block < W.heap.size := by obtain ⟨m, hm⟩ := k3; exact DataW.trod_lt m _ _ _ hm
 have bd3 : Rows.uptoBulk d3 ≤ 1048576 := Nat.le_trans (bulks.part_le (d := d3) (l := [d0, d1, d2, d3] ++ []) (by simp)) hb
 obtain ⟨ps0, hh0, b0, sv0, hL0, hR0, hok0, hD0, hs0⟩ := open_msgK (hval 0 31 v0 rfl rfl) h0 0
 obtain ⟨a1, rfl, rfl, rfl, w1⟩ := open_int Try.underlying3 (hval 1 3 v1 rfl rfl) h1
 obtain ⟨ps2, hh2, b2, sv2, hL2, hR2, hok2, hD2, hs2⟩ := open_bytesK (hval 2 24 v2 rfl rfl) h2 (0 + hh0.length)
 obtain ⟨ps3, hh3, b3, sv3, hL3, hR3, hok3, hD3, hs3⟩ := open_bytesK (hval 3 24 v3 rfl rfl) h3 (0 + hh0.length + hh2.length)
 clear hA0
 refine (messageBack_walk hL0 hR0 hok0 hD0 (Nat.le_trans hs0 bd0) a1 w1 hL2 hR2 hok2 hD2 (Nat.le_trans hs2 bd2) hL3 hR3 hok3 hD3 (Nat.le_trans hs3 bd3)).mono fun e W' ⟨he, bel⟩ => ?_
 subst he
 exact ⟨_, rfl, _, _, _, [], _, [], hW', trodAll_mk1 (shut_bool Try.underlying4 _), (trodAll_cons_mk (Below.trod try_laidOut (by kernel_rfl) (of_decide_eq_true (by kernel_rfl)) k0 bel lt0) (trodAll_cons_mk (Below.trod try_laidOut (by kernel_rfl) (of_decide_eq_true (by kernel_rfl)) k1 bel lt1) (trodAll_cons_mk (Below.trod try_laidOut (by kernel_rfl) (of_decide_eq_true (by kernel_rfl)) k2 bel lt2) (trodAll_cons_mk (Below.trod try_laidOut (by kernel_rfl) (of_decide_eq_true (by kernel_rfl)) k3 bel lt3) trodAll_mk0)))), rfl, bel.frame _, fun h => by cases h⟩
set_option maxRecDepth 100000 in
theorem messageBack_lifted (os : Os) (started : os.Started) (H : Type) (enc : TypeId × Value → H) (F : Stop.Interp) :
  ReturnsInHanded {} Try.checked os 10 .any ((Rows.OpenSpec.upto Rows.messageBackSpec).pre6 enc Try.prog Try.f10 Rows.messageBackUptoRow.domain false) (((Rows.OpenSpec.upto Rows.messageBackSpec).at F).post enc Try.prog Try.f10 false true false false) := by
 refine returnsInHanded_of_cond (C := Try.checked) (s := Rows.OpenSpec.upto Rows.messageBackSpec) (k := Rows.uptoSmall) rfl try_own started (by kernel_rfl) Try.func10
  (OpenSpec.witness (enc := enc) (C := Try.checked) (s := Rows.OpenSpec.upto Rows.messageBackSpec) (k := Rows.uptoSmall) rfl false ⟨#[], #[.agg (#[.int .i64 0, .int .i64 0, .int .i64 0, .int .i64 0] ++ Array.replicate 32 (.int .u8 0) ++ #[.slice none 0 0, .slice none 0 0, .slice none 0 0, .slice none 0 0, .int .i64 0] ++ Array.replicate 32 (.int .u8 0)), .int .i64 0, .slice none 0 0, .slice none 0 0], []⟩ 8 (by kernel_rfl) (by kernel_rfl) (by kernel_rfl)
   (x := ([.agg [.lit (.int .i64 0), .lit (.int .i64 0), .lit (.int .i64 0), .lit (.int .i64 0), .agg (List.replicate 32 (.lit (.int .u8 0))), .nil, .nil, .nil, .nil, .agg [.lit (.int .i64 0), .agg (List.replicate 32 (.lit (.int .u8 0)))]], .lit (.int .i64 0), .nil, .nil], [], [])) (by kernel_rfl) rfl (by kernel_rfl)) ?_
 intro W base args ds gs before hval hW _ hk _
 exact messageBack_contract H enc W base args ds gs before hval hW hk
theorem messageBack_over : Rows.messageBackUptoRow.holds Try.pinned (Rows.OpenSpec.upto Rows.messageBackSpec) :=
 OpenClaim.holds_of_cond 10 Try.f10 rfl rfl rfl rfl rfl rfl rfl ⟨rfl, rfl, rfl, rfl, rfl⟩ rfl rfl rfl rfl rfl (by kernel_rfl) Try.func10 (by kernel_rfl)
  (of_decide_eq_true (by kernel_rfl)) (by unfold Func.isWrapper; first | (rw [if_pos (by decide +kernel)]; kernel_rfl) | (rw [if_neg (by decide +kernel)]; exact ⟨rfl, rfl⟩))
  (fun os started H enc _ F => messageBack_lifted os started H enc F)
/-- The statement. -/
theorem messageBack_holds : Rows.MessageBackUptoSaid := messageBack_over
#print axioms messageBack_holds
end Go.Proofs.Ytgocfglmideobaa
