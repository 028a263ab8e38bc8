/- Contracts of functions that the laws reach, by the symbolic executor of the texts Sxa to Sxt. No condition. -/
import Derived.Test.YtbjelfgclhmedaaU33
set_option linter.all false
set_option maxRecDepth 40000
namespace Go.Proofs.Ytbjelfgclhmedaa
open Go Go.Sx

/-- The greatest power of two beneath n. -/
def hf (n : Nat) : Nat := 2 ^ (n - 1).log2
theorem hf_eq {n L : Nat} (hn : 2 ≤ n) (h1 : 2 ^ L ≤ n - 1) (h2 : n - 1 < 2 ^ (L + 1)) : hf n = 2 ^ L := by
  unfold hf
  rw [(Nat.log2_eq_iff (by omega)).2 ⟨h1, h2⟩]
theorem hf_lt {n : Nat} (hn : 2 ≤ n) : 1 ≤ hf n ∧ hf n < n := by
  refine ⟨Nat.one_le_two_pow, ?_⟩
  have := Nat.log2_self_le (n := n - 1) (by omega)
  unfold hf
  omega
theorem res73 : Try.f73.results.toList = [.tmp 2] := rfl
theorem res64 : Try.f64.results.toList = [.tmp 2] := rfl
theorem res65 : Try.f65.results.toList = [.tmp 2] := rfl
theorem c73 (v : BitVec 64) (hv : 0 < v.toNat) {h : List Chunk} (K : Tok → SV → List Chunk → Prop) (hK : ∀ L : Nat, 1 ≤ L → L ≤ 64 → 2 ^ (L - 1) ≤ v.toNat → v.toNat < 2 ^ L → K .mk (.int .i64 (L : Nat)) h) :
    callP Try.prog 73 [.int .u64 (nat v)] h K := by
  refine callP_of_code tabOk Try.func73 (by kernel_rfl) rfl (Nat.le_of_ble_eq_true rfl) (codeP_of_vc (pl := np) tabOk follows_mixed (by kernel_rfl) ?_)
  rw [Try.ntmps73]
  simp -implicitDefEqProofs (maxSteps := 1000000) (disch := omega) only [↓vcB, ↓gd, ↓opP, ↓qv, ↓ef, ↓bslS, ↓stS, ↓mkS, ↓mupS, ↓appS, ↓s2bS, ↓resS, evB, Sx.look, slot, ↓lkL, putS, putO, argsL, ↓reduceIte, ofV, of1, lookH, putH, List.length_cons, List.length_nil, List.length_append, List.replicate, List.append, List.cons_append, List.nil_append, List.append_assoc, List.map_cons, List.map_nil, convS, fldA, nthT, idxA, idxS, fldS, oslN, bnd, slS, unS, valI, lenS, lookS, takeC, psB, asRow, csB, Int.toNat_natCast, Int.le_refl, and_self, rdF, Ent.row, ldS, sz, szL, wrF, bldF, plT, bldS, srcS, nilS, nilEq, binS2, structS, eqL, eqF, binS, arrS, isI, tupS, stor, storL, Value.oneCell', minS, maxS, capS, true_and, and_true, Nat.reduceAdd, Nat.reduceSub, Nat.reduceMul, Nat.reduceLT, Nat.reduceLeDiff, Nat.reduceEqDiff, Nat.reduceBEq, Int.reduceToNat, Int.reduceNeg, Nat.zero_add, Nat.add_zero, Nat.sub_self, Nat.sub_zero, Nat.zero_mul, Nat.mul_one, Nat.zero_le, if_true, if_false, reduceIte, stays, inL, same1, qn, ldN, convN, lenN, List.mem_cons, List.not_mem_nil, Option.map_some, Option.map_none, cond_true, cond_false, Sx.imp_true, Sx.imp_false, implies_true, Int.reduceEq, Int.reduceNe, Int.reduceLE, Int.reduceLT, decide_true, decide_false, List.zipIdx_cons, List.zipIdx_nil, or_false, false_or, forall_eq_or_imp, forall_eq, ne_eq, reduceCtorEq, not_false_eq_true, Bool.false_eq_true, Bool.true_eq_false, Bool.not_true, Bool.not_false, notInt, numB, tabB, Array.reduceGetElem?, upG, up, nth, lay, rcB, rnm, rnmL, wrB, pcB, hsB, res73]
  refine c76 v hv _ fun L q1 q2 q3 q4 => ?_
  simp -implicitDefEqProofs (maxSteps := 1000000) (disch := omega) only [↓vcB, ↓gd, ↓opP, ↓qv, ↓ef, ↓bslS, ↓stS, ↓mkS, ↓mupS, ↓appS, ↓s2bS, ↓resS, evB, Sx.look, slot, ↓lkL, putS, putO, argsL, ↓reduceIte, ofV, of1, lookH, putH, List.length_cons, List.length_nil, List.length_append, List.replicate, List.append, List.cons_append, List.nil_append, List.append_assoc, List.map_cons, List.map_nil, convS, fldA, nthT, idxA, idxS, fldS, oslN, bnd, slS, unS, valI, lenS, lookS, takeC, psB, asRow, csB, Int.toNat_natCast, Int.le_refl, and_self, rdF, Ent.row, ldS, sz, szL, wrF, bldF, plT, bldS, srcS, nilS, nilEq, binS2, structS, eqL, eqF, binS, arrS, isI, tupS, stor, storL, Value.oneCell', minS, maxS, capS, true_and, and_true, Nat.reduceAdd, Nat.reduceSub, Nat.reduceMul, Nat.reduceLT, Nat.reduceLeDiff, Nat.reduceEqDiff, Nat.reduceBEq, Int.reduceToNat, Int.reduceNeg, Nat.zero_add, Nat.add_zero, Nat.sub_self, Nat.sub_zero, Nat.zero_mul, Nat.mul_one, Nat.zero_le, if_true, if_false, reduceIte, stays, inL, same1, qn, ldN, convN, lenN, List.mem_cons, List.not_mem_nil, Option.map_some, Option.map_none, cond_true, cond_false, Sx.imp_true, Sx.imp_false, implies_true, Int.reduceEq, Int.reduceNe, Int.reduceLE, Int.reduceLT, decide_true, decide_false, List.zipIdx_cons, List.zipIdx_nil, or_false, false_or, forall_eq_or_imp, forall_eq, ne_eq, reduceCtorEq, not_false_eq_true, Bool.false_eq_true, Bool.true_eq_false, Bool.not_true, Bool.not_false, notInt, numB, tabB, Array.reduceGetElem?, upG, up, nth, lay, rcB, rnm, rnmL, wrB, pcB, hsB, res73]
  exact intoR_refl (Nat.le_refl _) (hK L q1 q2 q3 q4)
theorem c64 (n : Nat) (hn : 2 ≤ n) (hn2 : n ≤ 4611686018427387904) (m : Nat) (hm : hf n = m) {h : List Chunk} (K : Tok → SV → List Chunk → Prop) (hK : K .mk (.int .i64 (m : Nat)) h) :
    callP Try.prog 64 [.int .i64 (n : Nat)] h K := by
  refine callP_of_code tabOk Try.func64 (by kernel_rfl) rfl (Nat.le_of_ble_eq_true rfl) (codeP_of_vc (pl := np) tabOk follows_mixed (by kernel_rfl) ?_)
  rw [Try.ntmps64]
  have f1 : IntKind.i64.wrap ((n : Int) - 1) = ((n - 1 : Nat) : Int) := by rw [wrap64 (by omega) (by omega)]; omega
  have f2 : IntKind.u64.wrap ((n - 1 : Nat) : Int) = nat (BitVec.ofNat 64 (n - 1)) := by
    rw [wrapU rfl, show (2 : Int) ^ IntKind.u64.bits = 18446744073709551616 from rfl]
    simp only [nat, BitVec.toNat_ofNat]
    omega
  have hv : (BitVec.ofNat 64 (n - 1)).toNat = n - 1 := by simp only [BitVec.toNat_ofNat]; omega
  simp -implicitDefEqProofs (maxSteps := 1000000) (disch := omega) only [↓vcB, ↓gd, ↓opP, ↓qv, ↓ef, ↓bslS, ↓stS, ↓mkS, ↓mupS, ↓appS, ↓s2bS, ↓resS, evB, Sx.look, slot, ↓lkL, putS, putO, argsL, ↓reduceIte, ofV, of1, lookH, putH, List.length_cons, List.length_nil, List.length_append, List.replicate, List.append, List.cons_append, List.nil_append, List.append_assoc, List.map_cons, List.map_nil, convS, fldA, nthT, idxA, idxS, fldS, oslN, bnd, slS, unS, valI, lenS, lookS, takeC, psB, asRow, csB, Int.toNat_natCast, Int.le_refl, and_self, rdF, Ent.row, ldS, sz, szL, wrF, bldF, plT, bldS, srcS, nilS, nilEq, binS2, structS, eqL, eqF, binS, arrS, isI, tupS, stor, storL, Value.oneCell', minS, maxS, capS, true_and, and_true, Nat.reduceAdd, Nat.reduceSub, Nat.reduceMul, Nat.reduceLT, Nat.reduceLeDiff, Nat.reduceEqDiff, Nat.reduceBEq, Int.reduceToNat, Int.reduceNeg, Nat.zero_add, Nat.add_zero, Nat.sub_self, Nat.sub_zero, Nat.zero_mul, Nat.mul_one, Nat.zero_le, if_true, if_false, reduceIte, stays, inL, same1, qn, ldN, convN, lenN, List.mem_cons, List.not_mem_nil, Option.map_some, Option.map_none, cond_true, cond_false, Sx.imp_true, Sx.imp_false, implies_true, Int.reduceEq, Int.reduceNe, Int.reduceLE, Int.reduceLT, decide_true, decide_false, List.zipIdx_cons, List.zipIdx_nil, or_false, false_or, forall_eq_or_imp, forall_eq, ne_eq, reduceCtorEq, not_false_eq_true, Bool.false_eq_true, Bool.true_eq_false, Bool.not_true, Bool.not_false, notInt, numB, tabB, Array.reduceGetElem?, upG, up, nth, lay, rcB, rnm, rnmL, wrB, pcB, hsB, res64, f1, f2]
  refine c73 _ (by rw [hv]; omega) _ fun L q1 q2 q3 q4 => ?_
  rw [hv] at q3 q4
  have e := hf_eq (n := n) (L := L - 1) hn q3 (by rw [show L - 1 + 1 = L by omega]; exact q4)
  have f3 : IntKind.i64.wrap ((L : Int) - 1) = ((L - 1 : Nat) : Int) := by rw [wrap64 (by omega) (by omega)]; omega
  have f4 : shlS .i64 1 ((L - 1 : Nat) : Int) = (m : Nat) := by
    unfold shlS
    rw [Int.toNat_natCast, show min (L - 1) IntKind.i64.bits = L - 1 from Nat.min_eq_left (by show L - 1 ≤ 64; omega), ← hm, e, Int.one_mul]
    have hp : ((2 : Int) ^ (L - 1)) = ((2 ^ (L - 1) : Nat) : Int) := by push_cast; rfl
    rw [hp, wrap64 (by omega) (by omega)]
  simp -implicitDefEqProofs (maxSteps := 1000000) (disch := omega) only [↓vcB, ↓gd, ↓opP, ↓qv, ↓ef, ↓bslS, ↓stS, ↓mkS, ↓mupS, ↓appS, ↓s2bS, ↓resS, evB, Sx.look, slot, ↓lkL, putS, putO, argsL, ↓reduceIte, ofV, of1, lookH, putH, List.length_cons, List.length_nil, List.length_append, List.replicate, List.append, List.cons_append, List.nil_append, List.append_assoc, List.map_cons, List.map_nil, convS, fldA, nthT, idxA, idxS, fldS, oslN, bnd, slS, unS, valI, lenS, lookS, takeC, psB, asRow, csB, Int.toNat_natCast, Int.le_refl, and_self, rdF, Ent.row, ldS, sz, szL, wrF, bldF, plT, bldS, srcS, nilS, nilEq, binS2, structS, eqL, eqF, binS, arrS, isI, tupS, stor, storL, Value.oneCell', minS, maxS, capS, true_and, and_true, Nat.reduceAdd, Nat.reduceSub, Nat.reduceMul, Nat.reduceLT, Nat.reduceLeDiff, Nat.reduceEqDiff, Nat.reduceBEq, Int.reduceToNat, Int.reduceNeg, Nat.zero_add, Nat.add_zero, Nat.sub_self, Nat.sub_zero, Nat.zero_mul, Nat.mul_one, Nat.zero_le, if_true, if_false, reduceIte, stays, inL, same1, qn, ldN, convN, lenN, List.mem_cons, List.not_mem_nil, Option.map_some, Option.map_none, cond_true, cond_false, Sx.imp_true, Sx.imp_false, implies_true, Int.reduceEq, Int.reduceNe, Int.reduceLE, Int.reduceLT, decide_true, decide_false, List.zipIdx_cons, List.zipIdx_nil, or_false, false_or, forall_eq_or_imp, forall_eq, ne_eq, reduceCtorEq, not_false_eq_true, Bool.false_eq_true, Bool.true_eq_false, Bool.not_true, Bool.not_false, notInt, numB, tabB, Array.reduceGetElem?, upG, up, nth, lay, rcB, rnm, rnmL, wrB, pcB, hsB, res64, f3, f4]
  exact ⟨by omega, intoR_refl (Nat.le_refl _) hK⟩
set_option maxHeartbeats 4000000 in
theorem c65l (n : Nat) (hn : 2 ≤ n) (hn2 : n ≤ 4611686018427387904) (m : Nat) (hm : hf n = m) (K : Tok → SV → List Chunk → Prop) (hK : K .mk (.int .i64 (m : Nat)) []) :
    callP Try.prog 65 [.int .i64 (n : Nat)] [] K := by
  refine callP_of_code tabOk Try.func65 (by kernel_rfl) rfl (Nat.le_of_ble_eq_true rfl) (codeP_of_vc (pl := np) tabOk follows_mixed (by kernel_rfl) ?_)
  rw [Try.ntmps65]
  simp -implicitDefEqProofs (maxSteps := 1000000) (disch := omega) only [↓vcB, ↓gd, ↓opP, ↓qv, ↓ef, ↓bslS, ↓stS, ↓mkS, ↓mupS, ↓appS, ↓s2bS, ↓resS, evB, Sx.look, slot, ↓lkL, putS, putO, argsL, ↓reduceIte, ofV, of1, lookH, putH, List.length_cons, List.length_nil, List.length_append, List.replicate, List.append, List.cons_append, List.nil_append, List.append_assoc, List.map_cons, List.map_nil, convS, fldA, nthT, idxA, idxS, fldS, oslN, bnd, slS, unS, valI, lenS, lookS, takeC, psB, asRow, csB, Int.toNat_natCast, Int.le_refl, and_self, rdF, Ent.row, ldS, sz, szL, wrF, bldF, plT, bldS, srcS, nilS, nilEq, binS2, structS, eqL, eqF, binS, arrS, isI, tupS, stor, storL, Value.oneCell', minS, maxS, capS, true_and, and_true, Nat.reduceAdd, Nat.reduceSub, Nat.reduceMul, Nat.reduceLT, Nat.reduceLeDiff, Nat.reduceEqDiff, Nat.reduceBEq, Int.reduceToNat, Int.reduceNeg, Nat.zero_add, Nat.add_zero, Nat.sub_self, Nat.sub_zero, Nat.zero_mul, Nat.mul_one, Nat.zero_le, if_true, if_false, reduceIte, stays, inL, same1, qn, ldN, convN, lenN, List.mem_cons, List.not_mem_nil, Option.map_some, Option.map_none, cond_true, cond_false, Sx.imp_true, Sx.imp_false, implies_true, Int.reduceEq, Int.reduceNe, Int.reduceLE, Int.reduceLT, decide_true, decide_false, List.zipIdx_cons, List.zipIdx_nil, or_false, false_or, forall_eq_or_imp, forall_eq, ne_eq, reduceCtorEq, not_false_eq_true, Bool.false_eq_true, Bool.true_eq_false, Bool.not_true, Bool.not_false, notInt, numB, tabB, Array.reduceGetElem?, upG, up, nth, lay, rcB, rnm, rnmL, wrB, pcB, hsB, res65]
  refine codeP_loop (pl := np) tabOk follows_mixed (by kernel_rfl) (fun m' s => ∃ (L : Nat) (j : Nat → Value), 2 ^ L + m' = n ∧ 2 ^ L ≤ n - 1 ∧ s = ⟨⟨11, [(0, .int .i64 (n : Nat)), (3, .int .i64 ((2 ^ L : Nat) : Int))], j⟩, [], []⟩) ?_ ?_
  · refine into_mk [] [(0, .int .i64 (n : Nat)), (3, .int .i64 ((2 ^ 0 : Nat) : Int))] [] ?_ ?_ ?_ ?_ ?_ ?_ ?_ ?_
    · simp [slot, lkL, fixed, rg, renH, chEq, lookH, eqvL, eqv, eqvF, rnmL, rnm, liveN, Chunk.live, goodH, Chunk.good, okL, ok, sz, szL, storL, stor, renT, okT]
    · simp [slot, lkL, fixed, rg, renH, chEq, lookH, eqvL, eqv, eqvF, rnmL, rnm, liveN, Chunk.live, goodH, Chunk.good, okL, ok, sz, szL, storL, stor, renT, okT]
    · simp [slot, lkL, fixed, rg, renH, chEq, lookH, eqvL, eqv, eqvF, rnmL, rnm, liveN, Chunk.live, goodH, Chunk.good, okL, ok, sz, szL, storL, stor, renT, okT]
    · simp [slot, lkL, fixed, rg, renH, chEq, lookH, eqvL, eqv, eqvF, rnmL, rnm, liveN, Chunk.live, goodH, Chunk.good, okL, ok, sz, szL, storL, stor, renT, okT]
    · simp [slot, lkL, fixed, rg, renH, chEq, lookH, eqvL, eqv, eqvF, rnmL, rnm, liveN, Chunk.live, goodH, Chunk.good, okL, ok, sz, szL, storL, stor, renT, okT]
    · simp [slot, lkL, fixed, rg, renH, chEq, lookH, eqvL, eqv, eqvF, rnmL, rnm, liveN, Chunk.live, goodH, Chunk.good, okL, ok, sz, szL, storL, stor, renT, okT]
    · simp [slot, lkL, fixed, rg, renH, chEq, lookH, eqvL, eqv, eqvF, rnmL, rnm, liveN, Chunk.live, goodH, Chunk.good, okL, ok, sz, szL, storL, stor, renT, okT]
    · intro j
      exact ⟨n - 1, 0, j, by omega, by omega, rfl⟩
  · rintro m' s ⟨L, j, hk, hL, rfl⟩
    have hp : 2 ^ (L + 1) = 2 ^ L * 2 := Nat.pow_succ ..
    have a0 : IntKind.i64.wrap (2 * ((2 ^ L : Nat) : Int)) = ((2 ^ (L + 1) : Nat) : Int) := by rw [wrap64 (by omega) (by omega)]; omega
    have a1 : IntKind.i64.wrap (((2 ^ L : Nat) : Int) * 2) = ((2 ^ (L + 1) : Nat) : Int) := by rw [wrap64 (by omega) (by omega)]; omega
    have h1 : 1 ≤ 2 ^ L := Nat.one_le_two_pow
    generalize hG : 2 ^ L = G at *
    generalize hG' : 2 ^ (L + 1) = G' at *
    by_cases hlt : G' < n
    · have g0 : decide ((G' : Int) < n) = true := by simpa using hlt
      simp -implicitDefEqProofs (maxSteps := 1000000) (disch := omega) only [↓vcB, ↓gd, ↓opP, ↓qv, ↓ef, ↓bslS, ↓stS, ↓mkS, ↓mupS, ↓appS, ↓s2bS, ↓resS, evB, Sx.look, slot, ↓lkL, putS, putO, argsL, ↓reduceIte, ofV, of1, lookH, putH, List.length_cons, List.length_nil, List.length_append, List.replicate, List.append, List.cons_append, List.nil_append, List.append_assoc, List.map_cons, List.map_nil, convS, fldA, nthT, idxA, idxS, fldS, oslN, bnd, slS, unS, valI, lenS, lookS, takeC, psB, asRow, csB, Int.toNat_natCast, Int.le_refl, and_self, rdF, Ent.row, ldS, sz, szL, wrF, bldF, plT, bldS, srcS, nilS, nilEq, binS2, structS, eqL, eqF, binS, arrS, isI, tupS, stor, storL, Value.oneCell', minS, maxS, capS, true_and, and_true, Nat.reduceAdd, Nat.reduceSub, Nat.reduceMul, Nat.reduceLT, Nat.reduceLeDiff, Nat.reduceEqDiff, Nat.reduceBEq, Int.reduceToNat, Int.reduceNeg, Nat.zero_add, Nat.add_zero, Nat.sub_self, Nat.sub_zero, Nat.zero_mul, Nat.mul_one, Nat.zero_le, if_true, if_false, reduceIte, stays, inL, same1, qn, ldN, convN, lenN, List.mem_cons, List.not_mem_nil, Option.map_some, Option.map_none, cond_true, cond_false, Sx.imp_true, Sx.imp_false, implies_true, Int.reduceEq, Int.reduceNe, Int.reduceLE, Int.reduceLT, decide_true, decide_false, List.zipIdx_cons, List.zipIdx_nil, or_false, false_or, forall_eq_or_imp, forall_eq, ne_eq, reduceCtorEq, not_false_eq_true, Bool.false_eq_true, Bool.true_eq_false, Bool.not_true, Bool.not_false, notInt, numB, tabB, Array.reduceGetElem?, upG, up, nth, lay, rcB, rnm, rnmL, wrB, pcB, hsB, res65, a0, a1, g0]
      refine into_mk [] [(0, .int .i64 (n : Nat)), (3, .int .i64 (G' : Int))] [] ?_ ?_ ?_ ?_ ?_ ?_ ?_ ?_
      · simp [slot, lkL, fixed, rg, renH, chEq, lookH, eqvL, eqv, eqvF, rnmL, rnm, liveN, Chunk.live, goodH, Chunk.good, okL, ok, sz, szL, storL, stor, renT, okT]
      · simp [slot, lkL, fixed, rg, renH, chEq, lookH, eqvL, eqv, eqvF, rnmL, rnm, liveN, Chunk.live, goodH, Chunk.good, okL, ok, sz, szL, storL, stor, renT, okT]
      · simp [slot, lkL, fixed, rg, renH, chEq, lookH, eqvL, eqv, eqvF, rnmL, rnm, liveN, Chunk.live, goodH, Chunk.good, okL, ok, sz, szL, storL, stor, renT, okT]
      · simp [slot, lkL, fixed, rg, renH, chEq, lookH, eqvL, eqv, eqvF, rnmL, rnm, liveN, Chunk.live, goodH, Chunk.good, okL, ok, sz, szL, storL, stor, renT, okT]
      · simp [slot, lkL, fixed, rg, renH, chEq, lookH, eqvL, eqv, eqvF, rnmL, rnm, liveN, Chunk.live, goodH, Chunk.good, okL, ok, sz, szL, storL, stor, renT, okT]
      · simp [slot, lkL, fixed, rg, renH, chEq, lookH, eqvL, eqv, eqvF, rnmL, rnm, liveN, Chunk.live, goodH, Chunk.good, okL, ok, sz, szL, storL, stor, renT, okT]
      · simp [slot, lkL, fixed, rg, renH, chEq, lookH, eqvL, eqv, eqvF, rnmL, rnm, liveN, Chunk.live, goodH, Chunk.good, okL, ok, sz, szL, storL, stor, renT, okT]
      · intro j
        exact ⟨n - G', by omega, L + 1, j, by omega, by omega, by rw [hG']⟩
    · have g0 : decide ((G' : Int) < n) = false := by simpa using hlt
      have e := hf_eq (n := n) (L := L) hn (by omega) (by omega)
      rw [hm, hG] at e
      subst e
      simp -implicitDefEqProofs (maxSteps := 1000000) (disch := omega) only [↓vcB, ↓gd, ↓opP, ↓qv, ↓ef, ↓bslS, ↓stS, ↓mkS, ↓mupS, ↓appS, ↓s2bS, ↓resS, evB, Sx.look, slot, ↓lkL, putS, putO, argsL, ↓reduceIte, ofV, of1, lookH, putH, List.length_cons, List.length_nil, List.length_append, List.replicate, List.append, List.cons_append, List.nil_append, List.append_assoc, List.map_cons, List.map_nil, convS, fldA, nthT, idxA, idxS, fldS, oslN, bnd, slS, unS, valI, lenS, lookS, takeC, psB, asRow, csB, Int.toNat_natCast, Int.le_refl, and_self, rdF, Ent.row, ldS, sz, szL, wrF, bldF, plT, bldS, srcS, nilS, nilEq, binS2, structS, eqL, eqF, binS, arrS, isI, tupS, stor, storL, Value.oneCell', minS, maxS, capS, true_and, and_true, Nat.reduceAdd, Nat.reduceSub, Nat.reduceMul, Nat.reduceLT, Nat.reduceLeDiff, Nat.reduceEqDiff, Nat.reduceBEq, Int.reduceToNat, Int.reduceNeg, Nat.zero_add, Nat.add_zero, Nat.sub_self, Nat.sub_zero, Nat.zero_mul, Nat.mul_one, Nat.zero_le, if_true, if_false, reduceIte, stays, inL, same1, qn, ldN, convN, lenN, List.mem_cons, List.not_mem_nil, Option.map_some, Option.map_none, cond_true, cond_false, Sx.imp_true, Sx.imp_false, implies_true, Int.reduceEq, Int.reduceNe, Int.reduceLE, Int.reduceLT, decide_true, decide_false, List.zipIdx_cons, List.zipIdx_nil, or_false, false_or, forall_eq_or_imp, forall_eq, ne_eq, reduceCtorEq, not_false_eq_true, Bool.false_eq_true, Bool.true_eq_false, Bool.not_true, Bool.not_false, notInt, numB, tabB, Array.reduceGetElem?, upG, up, nth, lay, rcB, rnm, rnmL, wrB, pcB, hsB, res65, a0, a1, g0]
      exact intoR_take [] rfl rfl trivial trivial hK
theorem c65 (n : Nat) (hn : 2 ≤ n) (hn2 : n ≤ 4611686018427387904) (m : Nat) (hm : hf n = m) {h : List Chunk} (K : Tok → SV → List Chunk → Prop) (hK : K .mk (.int .i64 (m : Nat)) h) :
    callP Try.prog 65 [.int .i64 (n : Nat)] h K := by
  refine callP_frame (argsL := [.int .i64 (n : Nat)]) (KL := fun _ v h' => v = .int .i64 (m : Nat) ∧ h' = []) [] (c65l n hn hn2 m hm _ ⟨rfl, rfl⟩) ?_ ?_ ?_ ?_ ?_ ?_
  · simp
  · trivial
  · trivial
  · simp [slot, lkL, fixed, rg, renH, chB, lookH, eqvL, eqv, eqvF, rnmL, rnm, liveN, lvB, goodH, gdB, okL, ok, sz, szL, storL, stor, renT, okT, has, upG, up, nth, roOk, keepsLive, wrB, lay, rcB, putH, pcB, hsB]
  · simp [slot, lkL, fixed, rg, renH, chB, lookH, eqvL, eqv, eqvF, rnmL, rnm, liveN, lvB, goodH, gdB, okL, ok, sz, szL, storL, stor, renT, okT, has, upG, up, nth, roOk, keepsLive, wrB, lay, rcB, putH, pcB, hsB]
  · rintro v' h' ⟨rfl, rfl⟩
    refine ⟨by simp [slot, lkL, fixed, rg, renH, chB, lookH, eqvL, eqv, eqvF, rnmL, rnm, liveN, lvB, goodH, gdB, okL, ok, sz, szL, storL, stor, renT, okT, has, upG, up, nth, roOk, keepsLive, wrB, lay, rcB, putH, pcB, hsB], by simp [slot, lkL, fixed, rg, renH, chB, lookH, eqvL, eqv, eqvF, rnmL, rnm, liveN, lvB, goodH, gdB, okL, ok, sz, szL, storL, stor, renT, okT, has, upG, up, nth, roOk, keepsLive, wrB, lay, rcB, putH, pcB, hsB], ?_⟩
    simpa [rnm, lay] using hK
end Go.Proofs.Ytbjelfgclhmedaa
