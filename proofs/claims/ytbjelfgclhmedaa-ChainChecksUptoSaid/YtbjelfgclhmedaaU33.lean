/- Contracts of functions that the laws reach, by the symbolic executor of the texts Sxa to Sxt. No condition. -/
import Derived.Test.YtbjelfgclhmedaaU32
set_option linter.all false
set_option maxRecDepth 40000
namespace Go.Proofs.Ytbjelfgclhmedaa
open Go Go.Sx

def tbL : List UInt8 := [0, 1, 2, 2, 3, 3, 3, 3, 4, 4, 4, 4, 4, 4, 4, 4, 5, 5, 5, 5, 5, 5, 5, 5, 5, 5, 5, 5, 5, 5, 5, 5, 6, 6, 6, 6, 6, 6, 6, 6, 6, 6, 6, 6, 6, 6, 6, 6, 6, 6, 6, 6, 6, 6, 6, 6, 6, 6, 6, 6, 6, 6, 6, 6, 7, 7, 7, 7, 7, 7, 7, 7, 7, 7, 7, 7, 7, 7, 7, 7, 7, 7, 7, 7, 7, 7, 7, 7, 7, 7, 7, 7, 7, 7, 7, 7, 7, 7, 7, 7, 7, 7, 7, 7, 7, 7, 7, 7, 7, 7, 7, 7, 7, 7, 7, 7, 7, 7, 7, 7, 7, 7, 7, 7, 7, 7, 7, 7, 8, 8, 8, 8, 8, 8, 8, 8, 8, 8, 8, 8, 8, 8, 8, 8, 8, 8, 8, 8, 8, 8, 8, 8, 8, 8, 8, 8, 8, 8, 8, 8, 8, 8, 8, 8, 8, 8, 8, 8, 8, 8, 8, 8, 8, 8, 8, 8, 8, 8, 8, 8, 8, 8, 8, 8, 8, 8, 8, 8, 8, 8, 8, 8, 8, 8, 8, 8, 8, 8, 8, 8, 8, 8, 8, 8, 8, 8, 8, 8, 8, 8, 8, 8, 8, 8, 8, 8, 8, 8, 8, 8, 8, 8, 8, 8, 8, 8, 8, 8, 8, 8, 8, 8, 8, 8, 8, 8, 8, 8, 8, 8, 8, 8, 8, 8, 8, 8, 8, 8, 8, 8, 8, 8, 8, 8, 8, 8]
def tbB : ByteArray := ⟨#[0, 1, 2, 2, 3, 3, 3, 3, 4, 4, 4, 4, 4, 4, 4, 4, 5, 5, 5, 5, 5, 5, 5, 5, 5, 5, 5, 5, 5, 5, 5, 5, 6, 6, 6, 6, 6, 6, 6, 6, 6, 6, 6, 6, 6, 6, 6, 6, 6, 6, 6, 6, 6, 6, 6, 6, 6, 6, 6, 6, 6, 6, 6, 6, 7, 7, 7, 7, 7, 7, 7, 7, 7, 7, 7, 7, 7, 7, 7, 7, 7, 7, 7, 7, 7, 7, 7, 7, 7, 7, 7, 7, 7, 7, 7, 7, 7, 7, 7, 7, 7, 7, 7, 7, 7, 7, 7, 7, 7, 7, 7, 7, 7, 7, 7, 7, 7, 7, 7, 7, 7, 7, 7, 7, 7, 7, 7, 7, 8, 8, 8, 8, 8, 8, 8, 8, 8, 8, 8, 8, 8, 8, 8, 8, 8, 8, 8, 8, 8, 8, 8, 8, 8, 8, 8, 8, 8, 8, 8, 8, 8, 8, 8, 8, 8, 8, 8, 8, 8, 8, 8, 8, 8, 8, 8, 8, 8, 8, 8, 8, 8, 8, 8, 8, 8, 8, 8, 8, 8, 8, 8, 8, 8, 8, 8, 8, 8, 8, 8, 8, 8, 8, 8, 8, 8, 8, 8, 8, 8, 8, 8, 8, 8, 8, 8, 8, 8, 8, 8, 8, 8, 8, 8, 8, 8, 8, 8, 8, 8, 8, 8, 8, 8, 8, 8, 8, 8, 8, 8, 8, 8, 8, 8, 8, 8, 8, 8, 8, 8, 8, 8, 8, 8, 8, 8, 8]⟩
def tabOk8 : List Nat → Bool
  | [] => true
  | y :: l => (let t := (tbL.getD y 0).toNat; decide (1 ≤ t ∧ t ≤ 8 ∧ 2 ^ (t - 1) ≤ y ∧ y < 2 ^ t)) && tabOk8 l
theorem tabOk8_spec : ∀ (l : List Nat), tabOk8 l = true → ∀ y ∈ l, 1 ≤ (tbL.getD y 0).toNat ∧ (tbL.getD y 0).toNat ≤ 8 ∧ 2 ^ ((tbL.getD y 0).toNat - 1) ≤ y ∧ y < 2 ^ (tbL.getD y 0).toNat
  | [], _, y, hy => by cases hy
  | x :: l, h, y, hy => by
    simp only [tabOk8, Bool.and_eq_true, decide_eq_true_eq] at h
    rcases List.mem_cons.1 hy with rfl | hy
    · exact h.1
    · exact tabOk8_spec l h.2 y hy
theorem tab8 (y : Nat) (h0 : 0 < y) (h : y < 256) : 1 ≤ (tbL.getD y 0).toNat ∧ (tbL.getD y 0).toNat ≤ 8 ∧ 2 ^ ((tbL.getD y 0).toNat - 1) ≤ y ∧ y < 2 ^ (tbL.getD y 0).toNat :=
  tabOk8_spec ((List.range 255).map (· + 1)) (by kernel_rfl) y (by simp; exact ⟨y - 1, by omega, by omega⟩)
theorem len_leaf (v x : BitVec 64) (s : Nat) (hx : x.toNat = v.toNat / 2 ^ s) (h1 : x.toNat < 256) (h0 : 0 < x.toNat) (hs : s ≤ 56) (n : Int) (hn : n = s) :
    (0 ≤ nat (BitVec.setWidth 8 x) ∧ nat (BitVec.setWidth 8 x) < (tbB.size : Int)) ∧ ∃ L : Nat, IntKind.i64.wrap (n + IntKind.i64.wrap (byteAt tbB (nat (BitVec.setWidth 8 x)).toNat)) = (L : Nat) ∧ 1 ≤ L ∧ L ≤ 64 ∧ 2 ^ (L - 1) ≤ v.toNat ∧ v.toNat < 2 ^ L := by
  have e : nat (BitVec.setWidth 8 x) = (x.toNat : Int) := by
    simp only [nat, BitVec.toNat_setWidth]
    omega
  have hsz : (tbB.size : Int) = 256 := by
    have : tbB.size = 256 := by kernel_rfl
    omega
  rw [e, hsz]
  refine ⟨⟨by omega, by omega⟩, ?_⟩
  obtain ⟨t1, t2, t3, t4⟩ := tab8 x.toNat h0 h1
  have hb : byteAt tbB ((x.toNat : Int)).toNat = ((tbL.getD x.toNat 0).toNat : Int) := by
    rw [Int.toNat_natCast]
    rfl
  rw [hb]
  generalize (tbL.getD x.toNat 0).toNat = t at t1 t2 t3 t4
  have hp : 2 ^ s * x.toNat ≤ v.toNat := by rw [hx]; exact Nat.mul_div_le _ _
  have hq : v.toNat < 2 ^ s * (x.toNat + 1) := by
    rw [hx, Nat.mul_add, Nat.mul_one]
    have := Nat.div_add_mod v.toNat (2 ^ s)
    have := Nat.mod_lt v.toNat (Nat.two_pow_pos s)
    omega
  refine ⟨s + t, ?_, by omega, by omega, ?_, ?_⟩
  · rw [wrap64 (n := (t : Int)) (by omega) (by omega), wrap64 (by omega) (by omega), hn]
    omega
  · rw [show s + t - 1 = s + (t - 1) by omega, Nat.pow_add]
    exact Nat.le_trans (Nat.mul_le_mul_left _ t3) hp
  · rw [Nat.pow_add]
    exact Nat.lt_of_lt_of_le hq (Nat.mul_le_mul_left _ t4)

theorem res76 : Try.f76.results.toList = [.tmp 2] := rfl
theorem shr_toNat (v : BitVec 64) (s : Nat) : (v >>> s).toNat = v.toNat / 2 ^ s := by rw [BitVec.toNat_ushiftRight, Nat.shiftRight_eq_div_pow]
set_option maxHeartbeats 4000000 in
theorem c76l (v : BitVec 64) (hv : 0 < v.toNat) (K : Tok → SV → List Chunk → Prop) (hK : ∀ L : Nat, 1 ≤ L → L ≤ 64 → 2 ^ (L - 1) ≤ v.toNat → v.toNat < 2 ^ L → K .mk (.int .i64 (L : Nat)) []) :
    callP Try.prog 76 [.int .u64 (nat v)] [] K := by
  refine callP_of_code tabOk Try.func76 (by kernel_rfl) rfl (Nat.le_of_ble_eq_true rfl) (codeP_of_vc (pl := np) tabOk follows_mixed (by kernel_rfl) ?_)
  rw [Try.ntmps76]
  have hb := v.isLt
  simp -implicitDefEqProofs (maxSteps := 1000000) (disch := omega) only [↓vcB, ↓gd, ↓opP, ↓qv, ↓ef, ↓bslS, ↓stS, ↓mkS, ↓mupS, ↓appS, ↓s2bS, ↓resS, evB, Sx.look, slot, ↓lkL, putS, putO, argsL, ↓reduceIte, ofV, of1, lookH, putH, List.length_cons, List.length_nil, List.length_append, List.replicate, List.append, List.cons_append, List.nil_append, List.append_assoc, List.map_cons, List.map_nil, convS, fldA, nthT, idxA, idxS, fldS, oslN, bnd, slS, unS, valI, lenS, lookS, takeC, psB, asRow, csB, Int.toNat_natCast, Int.le_refl, and_self, rdF, Ent.row, ldS, sz, szL, wrF, bldF, plT, bldS, srcS, nilS, nilEq, binS2, structS, eqL, eqF, binS, arrS, isI, tupS, stor, storL, Value.oneCell', minS, maxS, capS, true_and, and_true, Nat.reduceAdd, Nat.reduceSub, Nat.reduceMul, Nat.reduceLT, Nat.reduceLeDiff, Nat.reduceEqDiff, Nat.reduceBEq, Int.reduceToNat, Int.reduceNeg, Nat.zero_add, Nat.add_zero, Nat.sub_self, Nat.sub_zero, Nat.zero_mul, Nat.mul_one, Nat.zero_le, if_true, if_false, reduceIte, stays, inL, same1, qn, ldN, convN, lenN, List.mem_cons, List.not_mem_nil, Option.map_some, Option.map_none, cond_true, cond_false, Sx.imp_true, Sx.imp_false, implies_true, Int.reduceEq, Int.reduceNe, Int.reduceLE, Int.reduceLT, decide_true, decide_false, List.zipIdx_cons, List.zipIdx_nil, or_false, false_or, forall_eq_or_imp, forall_eq, ne_eq, reduceCtorEq, not_false_eq_true, Bool.false_eq_true, Bool.true_eq_false, Bool.not_true, Bool.not_false, notInt, numB, tabB, Array.reduceGetElem?, upG, up, nth, lay, rcB, rnm, rnmL, wrB, pcB, hsB, res76]
  refine ⟨Sx.imp_intro fun h1 => ⟨Sx.imp_intro fun h2 => ⟨Sx.imp_intro fun h3 => ?_, Sx.imp_intro fun h3 => ?_⟩, Sx.imp_intro fun h2 => ⟨Sx.imp_intro fun h3 => ?_, Sx.imp_intro fun h3 => ?_⟩⟩, Sx.imp_intro fun h1 => ⟨Sx.imp_intro fun h2 => ⟨Sx.imp_intro fun h3 => ?_, Sx.imp_intro fun h3 => ?_⟩, Sx.imp_intro fun h2 => ⟨Sx.imp_intro fun h3 => ?_, Sx.imp_intro fun h3 => ?_⟩⟩⟩
  · have k1 := of_decide_eq_true h1
    have k2 := of_decide_eq_true h2
    have k3 := of_decide_eq_true h3
    simp only [nat, shr_toNat] at k1 k2 k3
    have hx : (v >>> 32 >>> 16 >>> 8).toNat = v.toNat / 2 ^ 56 := by
      simp only [shr_toNat, Nat.div_div_eq_div_mul]
    obtain ⟨q1, L, q2, q3, q4, q5, q6⟩ := len_leaf v (v >>> 32 >>> 16 >>> 8) 56 hx (by rw [hx]; omega) (by rw [hx]; omega) (by omega) (IntKind.i64.wrap (IntKind.i64.wrap (32 + 16) + 8)) (by decide)
    refine ⟨q1, (show IntoR 0 (.int .i64 (IntKind.i64.wrap ((IntKind.i64.wrap (IntKind.i64.wrap (32 + 16) + 8) : Int) + IntKind.i64.wrap (byteAt tbB (nat (BitVec.setWidth 8 (v >>> 32 >>> 16 >>> 8))).toNat)))) [] K from ?_)⟩
    rw [q2]
    exact intoR_take [] rfl rfl trivial trivial (hK L q3 q4 q5 q6)
  · have k1 := of_decide_eq_true h1
    have k2 := of_decide_eq_true h2
    have k3 := of_decide_eq_false h3
    simp only [nat, shr_toNat] at k1 k2 k3
    have hx : (v >>> 32 >>> 16).toNat = v.toNat / 2 ^ 48 := by
      simp only [shr_toNat, Nat.div_div_eq_div_mul]
    obtain ⟨q1, L, q2, q3, q4, q5, q6⟩ := len_leaf v (v >>> 32 >>> 16) 48 hx (by rw [hx]; omega) (by rw [hx]; omega) (by omega) (IntKind.i64.wrap (32 + 16)) (by decide)
    refine ⟨q1, (show IntoR 0 (.int .i64 (IntKind.i64.wrap ((IntKind.i64.wrap (32 + 16) : Int) + IntKind.i64.wrap (byteAt tbB (nat (BitVec.setWidth 8 (v >>> 32 >>> 16))).toNat)))) [] K from ?_)⟩
    rw [q2]
    exact intoR_take [] rfl rfl trivial trivial (hK L q3 q4 q5 q6)
  · have k1 := of_decide_eq_true h1
    have k2 := of_decide_eq_false h2
    have k3 := of_decide_eq_true h3
    simp only [nat, shr_toNat] at k1 k2 k3
    have hx : (v >>> 32 >>> 8).toNat = v.toNat / 2 ^ 40 := by
      simp only [shr_toNat, Nat.div_div_eq_div_mul]
    obtain ⟨q1, L, q2, q3, q4, q5, q6⟩ := len_leaf v (v >>> 32 >>> 8) 40 hx (by rw [hx]; omega) (by rw [hx]; omega) (by omega) (IntKind.i64.wrap (32 + 8)) (by decide)
    refine ⟨q1, (show IntoR 0 (.int .i64 (IntKind.i64.wrap ((IntKind.i64.wrap (32 + 8) : Int) + IntKind.i64.wrap (byteAt tbB (nat (BitVec.setWidth 8 (v >>> 32 >>> 8))).toNat)))) [] K from ?_)⟩
    rw [q2]
    exact intoR_take [] rfl rfl trivial trivial (hK L q3 q4 q5 q6)
  · have k1 := of_decide_eq_true h1
    have k2 := of_decide_eq_false h2
    have k3 := of_decide_eq_false h3
    simp only [nat, shr_toNat] at k1 k2 k3
    have hx : (v >>> 32).toNat = v.toNat / 2 ^ 32 := by
      simp only [shr_toNat, Nat.div_div_eq_div_mul]
    obtain ⟨q1, L, q2, q3, q4, q5, q6⟩ := len_leaf v (v >>> 32) 32 hx (by rw [hx]; omega) (by rw [hx]; omega) (by omega) (32) (by decide)
    refine ⟨q1, (show IntoR 0 (.int .i64 (IntKind.i64.wrap ((32 : Int) + IntKind.i64.wrap (byteAt tbB (nat (BitVec.setWidth 8 (v >>> 32))).toNat)))) [] K from ?_)⟩
    rw [q2]
    exact intoR_take [] rfl rfl trivial trivial (hK L q3 q4 q5 q6)
  · have k1 := of_decide_eq_false h1
    have k2 := of_decide_eq_true h2
    have k3 := of_decide_eq_true h3
    simp only [nat, shr_toNat] at k1 k2 k3
    have hx : (v >>> 16 >>> 8).toNat = v.toNat / 2 ^ 24 := by
      simp only [shr_toNat, Nat.div_div_eq_div_mul]
    obtain ⟨q1, L, q2, q3, q4, q5, q6⟩ := len_leaf v (v >>> 16 >>> 8) 24 hx (by rw [hx]; omega) (by rw [hx]; omega) (by omega) (IntKind.i64.wrap (IntKind.i64.wrap (0 + 16) + 8)) (by decide)
    refine ⟨q1, (show IntoR 0 (.int .i64 (IntKind.i64.wrap ((IntKind.i64.wrap (IntKind.i64.wrap (0 + 16) + 8) : Int) + IntKind.i64.wrap (byteAt tbB (nat (BitVec.setWidth 8 (v >>> 16 >>> 8))).toNat)))) [] K from ?_)⟩
    rw [q2]
    exact intoR_take [] rfl rfl trivial trivial (hK L q3 q4 q5 q6)
  · have k1 := of_decide_eq_false h1
    have k2 := of_decide_eq_true h2
    have k3 := of_decide_eq_false h3
    simp only [nat, shr_toNat] at k1 k2 k3
    have hx : (v >>> 16).toNat = v.toNat / 2 ^ 16 := by
      simp only [shr_toNat, Nat.div_div_eq_div_mul]
    obtain ⟨q1, L, q2, q3, q4, q5, q6⟩ := len_leaf v (v >>> 16) 16 hx (by rw [hx]; omega) (by rw [hx]; omega) (by omega) (IntKind.i64.wrap (0 + 16)) (by decide)
    refine ⟨q1, (show IntoR 0 (.int .i64 (IntKind.i64.wrap ((IntKind.i64.wrap (0 + 16) : Int) + IntKind.i64.wrap (byteAt tbB (nat (BitVec.setWidth 8 (v >>> 16))).toNat)))) [] K from ?_)⟩
    rw [q2]
    exact intoR_take [] rfl rfl trivial trivial (hK L q3 q4 q5 q6)
  · have k1 := of_decide_eq_false h1
    have k2 := of_decide_eq_false h2
    have k3 := of_decide_eq_true h3
    simp only [nat, shr_toNat] at k1 k2 k3
    have hx : (v >>> 8).toNat = v.toNat / 2 ^ 8 := by
      simp only [shr_toNat, Nat.div_div_eq_div_mul]
    obtain ⟨q1, L, q2, q3, q4, q5, q6⟩ := len_leaf v (v >>> 8) 8 hx (by rw [hx]; omega) (by rw [hx]; omega) (by omega) (IntKind.i64.wrap (0 + 8)) (by decide)
    refine ⟨q1, (show IntoR 0 (.int .i64 (IntKind.i64.wrap ((IntKind.i64.wrap (0 + 8) : Int) + IntKind.i64.wrap (byteAt tbB (nat (BitVec.setWidth 8 (v >>> 8))).toNat)))) [] K from ?_)⟩
    rw [q2]
    exact intoR_take [] rfl rfl trivial trivial (hK L q3 q4 q5 q6)
  · have k1 := of_decide_eq_false h1
    have k2 := of_decide_eq_false h2
    have k3 := of_decide_eq_false h3
    simp only [nat, shr_toNat] at k1 k2 k3
    have hx : (v).toNat = v.toNat / 2 ^ 0 := by
      simp only [shr_toNat, Nat.div_div_eq_div_mul, Nat.pow_zero, Nat.div_one]
    obtain ⟨q1, L, q2, q3, q4, q5, q6⟩ := len_leaf v (v) 0 hx (by rw [hx]; omega) (by rw [hx]; omega) (by omega) (0) (by decide)
    refine ⟨q1, (show IntoR 0 (.int .i64 (IntKind.i64.wrap ((0 : Int) + IntKind.i64.wrap (byteAt tbB (nat (BitVec.setWidth 8 (v))).toNat)))) [] K from ?_)⟩
    rw [q2]
    exact intoR_take [] rfl rfl trivial trivial (hK L q3 q4 q5 q6)
theorem c76 (v : BitVec 64) (hv : 0 < v.toNat) {h : List Chunk} (K : Tok → SV → List Chunk → Prop) (hK : ∀ L : Nat, 1 ≤ L → L ≤ 64 → 2 ^ (L - 1) ≤ v.toNat → v.toNat < 2 ^ L → K .mk (.int .i64 (L : Nat)) h) :
    callP Try.prog 76 [.int .u64 (nat v)] h K := by
  refine callP_frame (argsL := [.int .u64 (nat v)]) (KL := fun _ v' h' => h' = [] ∧ ∃ L : Nat, v' = .int .i64 (L : Nat) ∧ 1 ≤ L ∧ L ≤ 64 ∧ 2 ^ (L - 1) ≤ v.toNat ∧ v.toNat < 2 ^ L) [] (c76l v hv _ fun L q1 q2 q3 q4 => ⟨rfl, L, rfl, q1, q2, q3, q4⟩) ?_ ?_ ?_ ?_ ?_ ?_
  · simp
  · trivial
  · trivial
  · simp [slot, lkL, fixed, rg, renH, chB, lookH, eqvL, eqv, eqvF, rnmL, rnm, liveN, lvB, goodH, gdB, okL, ok, sz, szL, storL, stor, renT, okT, has, upG, up, nth, roOk, keepsLive, wrB, lay, rcB, putH, pcB, hsB]
  · simp [slot, lkL, fixed, rg, renH, chB, lookH, eqvL, eqv, eqvF, rnmL, rnm, liveN, lvB, goodH, gdB, okL, ok, sz, szL, storL, stor, renT, okT, has, upG, up, nth, roOk, keepsLive, wrB, lay, rcB, putH, pcB, hsB]
  · rintro v' h' ⟨rfl, L, rfl, q1, q2, q3, q4⟩
    refine ⟨by simp [slot, lkL, fixed, rg, renH, chB, lookH, eqvL, eqv, eqvF, rnmL, rnm, liveN, lvB, goodH, gdB, okL, ok, sz, szL, storL, stor, renT, okT, has, upG, up, nth, roOk, keepsLive, wrB, lay, rcB, putH, pcB, hsB], by simp [slot, lkL, fixed, rg, renH, chB, lookH, eqvL, eqv, eqvF, rnmL, rnm, liveN, lvB, goodH, gdB, okL, ok, sz, szL, storL, stor, renT, okT, has, upG, up, nth, roOk, keepsLive, wrB, lay, rcB, putH, pcB, hsB], ?_⟩
    simpa [rnm, lay] using hK L q1 q2 q3 q4
end Go.Proofs.Ytbjelfgclhmedaa
