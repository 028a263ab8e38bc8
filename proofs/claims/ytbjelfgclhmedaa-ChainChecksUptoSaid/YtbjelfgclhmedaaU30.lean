/- Contracts of functions that the laws reach, by the symbolic executor of the texts Sxa to Sxt. No condition. -/
import Derived.Test.YtbjelfgclhmedaaU29
set_option linter.all false
set_option maxRecDepth 40000
namespace Go.Proofs.Ytbjelfgclhmedaa
open Go Go.Sx

def pl41 : Nat → Plan
  | 1 => (.q 0 (.q 1 (.e1 2 [0, 1] (.e1 3 [0, 1] (.e1 4 [0, 1, 3] .nil)))))
  | _ => .nil

def pl42 : Nat → Plan
  | 1 => (.q 1 (.q 3 (.e1 0 [] (.e1 2 [1] (.e1 4 [1, 2, 3] (.e1 5 [2, 3, 4] (.e1 6 [1, 2, 3, 4, 5] .nil)))))))
  | _ => .nil


/-- The digests of links, leaves, nodes, nothing. -/
def lkD (D : Nat → BitVec 8) (q : Pc) : Nat → BitVec 8 := shaD (1 + 32 + q.len) (cat (1 + 32) (cat 1 (kF 0) D) q.fn)
def lfD (q : Pc) : Nat → BitVec 8 := shaD (1 + q.len) (cat 1 (kF 1) q.fn)
def ndD (D E : Nat → BitVec 8) : Nat → BitVec 8 := shaD (1 + 32 + 32) (cat (1 + 32) (cat 1 (kF 2) D) E)
def noD : Nat → BitVec 8 := shaD 1 (kF 3)
theorem res37 : Try.f37.results.toList = [.cell 4 29] := rfl
theorem res38 : Try.f38.results.toList = [.cell 4 29] := rfl
theorem res39 : Try.f39.results.toList = [.cell 2 29] := rfl
theorem res40 : Try.f40.results.toList = [.cell 2 29] := rfl
theorem res41 : Try.f41.results.toList = [.cell 4 29] := rfl
theorem res42 : Try.f42.results.toList = [.cell 4 29] := rfl
theorem nat0 : nat (0#8) = 0 := rfl
theorem nat1 : nat (1#8) = 1 := rfl
theorem nat2 : nat (2#8) = 2 := rfl
theorem nat3 : nat (3#8) = 3 := rfl

set_option maxHeartbeats 4000000 in
theorem c37l (D : Nat → BitVec 8) (q : Pc) (F : Nat → SV) (hF : (fun i => SV.int .u8 (nat (lkD D q i))) = F) (hS : q.len ≤ 70368744176000) (K : Tok → SV → List Chunk → Prop)
    (hK : K .mk (.fam 32 1 F) [q.ch]) : callP Try.prog 37 [.fam 32 1 fun i => .int .u8 (nat (D i)), q.sv 0] [q.ch] K := by
  refine callP_of_code tabOk Try.func37 (by kernel_rfl) rfl (Nat.le_of_ble_eq_true rfl) (codeP_of_vc (pl := np) tabOk follows_mixed (by kernel_rfl) ?_)
  rw [Try.ntmps37]
  have hF' : ∀ i, F i = .int .u8 (nat (lkD D q i)) := fun i => by rw [← hF]
  simp -implicitDefEqProofs (maxSteps := 1000000) (disch := omega) only [↓vcB, ↓gd, ↓opP, ↓qv, ↓ef, ↓bslS, ↓stS, ↓mkS, ↓mupS, ↓appS, ↓s2bS, ↓resS, evB, Sx.look, slot, ↓lkL, putS, putO, argsL, ↓reduceIte, ofV, of1, lookH, putH, List.length_cons, List.length_nil, List.length_append, List.replicate, List.append, List.cons_append, List.nil_append, List.append_assoc, List.map_cons, List.map_nil, convS, fldA, nthT, idxA, idxS, fldS, oslN, bnd, slS, unS, valI, lenS, lookS, takeC, psB, asRow, csB, Int.toNat_natCast, Int.le_refl, and_self, rdF, Ent.row, ldS, sz, szL, wrF, bldF, plT, bldS, srcS, nilS, nilEq, binS2, structS, eqL, eqF, binS, arrS, isI, tupS, stor, storL, Value.oneCell', minS, maxS, capS, true_and, and_true, Nat.reduceAdd, Nat.reduceSub, Nat.reduceMul, Nat.reduceLT, Nat.reduceLeDiff, Nat.reduceEqDiff, Nat.reduceBEq, Int.reduceToNat, Int.reduceNeg, Nat.zero_add, Nat.add_zero, Nat.sub_self, Nat.sub_zero, Nat.zero_mul, Nat.mul_one, Nat.zero_le, if_true, if_false, reduceIte, stays, inL, same1, qn, ldN, convN, lenN, List.mem_cons, List.not_mem_nil, Option.map_some, Option.map_none, cond_true, cond_false, Sx.imp_true, Sx.imp_false, implies_true, Int.reduceEq, Int.reduceNe, Int.reduceLE, Int.reduceLT, decide_true, decide_false, List.zipIdx_cons, List.zipIdx_nil, or_false, false_or, forall_eq_or_imp, forall_eq, ne_eq, reduceCtorEq, not_false_eq_true, Bool.false_eq_true, Bool.true_eq_false, Bool.not_true, Bool.not_false, notInt, numB, tabB, Array.reduceGetElem?, upG, up, nth, lay, rcB, rnm, rnmL, wrB, pcB, hsB, pl41, res37, hF', res39, res41]
  refine callP_frame (argsL := [.int .u8 (nat 0), .osl 2 0 0 1 2]) (KL := fun _ v h' => v = .fam 32 1 F ∧ h' = [(Pc.arr 32 D).ch, q.ch, .row false 2 1 (Sx.look [(Pc.arr 32 D).sv 0, q.sv 1])]) [1, 0, 3] (c62_2 0 (.arr 32 D) q F hF (by simp only [Pc.len_arr]; omega) _ ⟨rfl, rfl⟩) ?_ ?_ ?_ ?_ ?_ ?_
  · simp
  · simp [slot, lkL, fixed, rg, renH, chB, lookH, eqvL, eqv, eqvF, rnmL, rnm, liveN, lvB, goodH, gdB, okL, ok, sz, szL, storL, stor, renT, okT, has, upG, up, nth, roOk, keepsLive, wrB, lay, rcB, putH, pcB, hsB, Sx.look, nat0, Pc.eqv_sv, Pc.chEq_arr]
    try (intro i hi; rcases i with _ | _ | i <;> first | omega | (simp [slot, lkL, fixed, rg, renH, chB, lookH, eqvL, eqv, eqvF, rnmL, rnm, liveN, lvB, goodH, gdB, okL, ok, sz, szL, storL, stor, renT, okT, has, upG, up, nth, roOk, keepsLive, wrB, lay, rcB, putH, pcB, hsB, Sx.look, nat0, Pc.eqv_sv, Pc.chEq_arr] <;> rfl))
  · (try simp only [goodH, List.length_cons, List.length_nil, Nat.zero_add, Nat.reduceAdd, Pc.good_ch, good_lk1, good_lk2, and_true])
    try simp [slot, lkL, fixed, rg, renH, chB, lookH, eqvL, eqv, eqvF, rnmL, rnm, liveN, lvB, goodH, gdB, okL, ok, sz, szL, storL, stor, renT, okT, has, upG, up, nth, roOk, keepsLive, wrB, lay, rcB, putH, pcB, hsB, Sx.look, nat0, Pc.eqv_sv, Pc.chEq_arr]
  · simp [slot, lkL, fixed, rg, renH, chB, lookH, eqvL, eqv, eqvF, rnmL, rnm, liveN, lvB, goodH, gdB, okL, ok, sz, szL, storL, stor, renT, okT, has, upG, up, nth, roOk, keepsLive, wrB, lay, rcB, putH, pcB, hsB, Sx.look, nat0, Pc.eqv_sv, Pc.chEq_arr]
  · simp [slot, lkL, fixed, rg, renH, chB, lookH, eqvL, eqv, eqvF, rnmL, rnm, liveN, lvB, goodH, gdB, okL, ok, sz, szL, storL, stor, renT, okT, has, upG, up, nth, roOk, keepsLive, wrB, lay, rcB, putH, pcB, hsB, Sx.look, nat0, Pc.eqv_sv, Pc.chEq_arr]
  · rintro v h' ⟨rfl, rfl⟩
    refine ⟨by simp [slot, lkL, fixed, rg, renH, chB, lookH, eqvL, eqv, eqvF, rnmL, rnm, liveN, lvB, goodH, gdB, okL, ok, sz, szL, storL, stor, renT, okT, has, upG, up, nth, roOk, keepsLive, wrB, lay, rcB, putH, pcB, hsB, Sx.look, nat0, Pc.eqv_sv, Pc.chEq_arr], by simp [slot, lkL, fixed, rg, renH, chB, lookH, eqvL, eqv, eqvF, rnmL, rnm, liveN, lvB, goodH, gdB, okL, ok, sz, szL, storL, stor, renT, okT, has, upG, up, nth, roOk, keepsLive, wrB, lay, rcB, putH, pcB, hsB, Sx.look, nat0, Pc.eqv_sv, Pc.chEq_arr], ?_⟩
    simp -implicitDefEqProofs (maxSteps := 1000000) (disch := omega) only [↓vcB, ↓gd, ↓opP, ↓qv, ↓ef, ↓bslS, ↓stS, ↓mkS, ↓mupS, ↓appS, ↓s2bS, ↓resS, evB, Sx.look, slot, ↓lkL, putS, putO, argsL, ↓reduceIte, ofV, of1, lookH, putH, List.length_cons, List.length_nil, List.length_append, List.replicate, List.append, List.cons_append, List.nil_append, List.append_assoc, List.map_cons, List.map_nil, convS, fldA, nthT, idxA, idxS, fldS, oslN, bnd, slS, unS, valI, lenS, lookS, takeC, psB, asRow, csB, Int.toNat_natCast, Int.le_refl, and_self, rdF, Ent.row, ldS, sz, szL, wrF, bldF, plT, bldS, srcS, nilS, nilEq, binS2, structS, eqL, eqF, binS, arrS, isI, tupS, stor, storL, Value.oneCell', minS, maxS, capS, true_and, and_true, Nat.reduceAdd, Nat.reduceSub, Nat.reduceMul, Nat.reduceLT, Nat.reduceLeDiff, Nat.reduceEqDiff, Nat.reduceBEq, Int.reduceToNat, Int.reduceNeg, Nat.zero_add, Nat.add_zero, Nat.sub_self, Nat.sub_zero, Nat.zero_mul, Nat.mul_one, Nat.zero_le, if_true, if_false, reduceIte, stays, inL, same1, qn, ldN, convN, lenN, List.mem_cons, List.not_mem_nil, Option.map_some, Option.map_none, cond_true, cond_false, Sx.imp_true, Sx.imp_false, implies_true, Int.reduceEq, Int.reduceNe, Int.reduceLE, Int.reduceLT, decide_true, decide_false, List.zipIdx_cons, List.zipIdx_nil, or_false, false_or, forall_eq_or_imp, forall_eq, ne_eq, reduceCtorEq, not_false_eq_true, Bool.false_eq_true, Bool.true_eq_false, Bool.not_true, Bool.not_false, notInt, numB, tabB, Array.reduceGetElem?, upG, up, nth, lay, rcB, rnm, rnmL, wrB, pcB, hsB, pl41, res37, hF', res39, res41]
    rw [← hF] at hK
    exact intoR_take [q.ch] rfl rfl (by simp only [goodH, Pc.good_ch, and_true]) (by simp [ok, sz]) hK

set_option maxHeartbeats 4000000 in
theorem c39l (q : Pc) (F : Nat → SV) (hF : (fun i => SV.int .u8 (nat (lfD q i))) = F) (hS : q.len ≤ 70368744176000) (K : Tok → SV → List Chunk → Prop)
    (hK : K .mk (.fam 32 1 F) [q.ch]) : callP Try.prog 39 [q.sv 0] [q.ch] K := by
  refine callP_of_code tabOk Try.func39 (by kernel_rfl) rfl (Nat.le_of_ble_eq_true rfl) (codeP_of_vc (pl := np) tabOk follows_mixed (by kernel_rfl) ?_)
  rw [Try.ntmps39]
  have hF' : ∀ i, F i = .int .u8 (nat (lfD q i)) := fun i => by rw [← hF]
  simp -implicitDefEqProofs (maxSteps := 1000000) (disch := omega) only [↓vcB, ↓gd, ↓opP, ↓qv, ↓ef, ↓bslS, ↓stS, ↓mkS, ↓mupS, ↓appS, ↓s2bS, ↓resS, evB, Sx.look, slot, ↓lkL, putS, putO, argsL, ↓reduceIte, ofV, of1, lookH, putH, List.length_cons, List.length_nil, List.length_append, List.replicate, List.append, List.cons_append, List.nil_append, List.append_assoc, List.map_cons, List.map_nil, convS, fldA, nthT, idxA, idxS, fldS, oslN, bnd, slS, unS, valI, lenS, lookS, takeC, psB, asRow, csB, Int.toNat_natCast, Int.le_refl, and_self, rdF, Ent.row, ldS, sz, szL, wrF, bldF, plT, bldS, srcS, nilS, nilEq, binS2, structS, eqL, eqF, binS, arrS, isI, tupS, stor, storL, Value.oneCell', minS, maxS, capS, true_and, and_true, Nat.reduceAdd, Nat.reduceSub, Nat.reduceMul, Nat.reduceLT, Nat.reduceLeDiff, Nat.reduceEqDiff, Nat.reduceBEq, Int.reduceToNat, Int.reduceNeg, Nat.zero_add, Nat.add_zero, Nat.sub_self, Nat.sub_zero, Nat.zero_mul, Nat.mul_one, Nat.zero_le, if_true, if_false, reduceIte, stays, inL, same1, qn, ldN, convN, lenN, List.mem_cons, List.not_mem_nil, Option.map_some, Option.map_none, cond_true, cond_false, Sx.imp_true, Sx.imp_false, implies_true, Int.reduceEq, Int.reduceNe, Int.reduceLE, Int.reduceLT, decide_true, decide_false, List.zipIdx_cons, List.zipIdx_nil, or_false, false_or, forall_eq_or_imp, forall_eq, ne_eq, reduceCtorEq, not_false_eq_true, Bool.false_eq_true, Bool.true_eq_false, Bool.not_true, Bool.not_false, notInt, numB, tabB, Array.reduceGetElem?, upG, up, nth, lay, rcB, rnm, rnmL, wrB, pcB, hsB, pl41, res37, hF', res39, res41]
  refine callP_frame (argsL := [.int .u8 (nat 1), .osl 1 0 0 1 1]) (KL := fun _ v h' => v = .fam 32 1 F ∧ h' = [q.ch, .row false 1 1 (Sx.look [q.sv 0])]) [0, 2] (c62_1 1 q F hF (by omega) _ ⟨rfl, rfl⟩) ?_ ?_ ?_ ?_ ?_ ?_
  · simp
  · simp [slot, lkL, fixed, rg, renH, chB, lookH, eqvL, eqv, eqvF, rnmL, rnm, liveN, lvB, goodH, gdB, okL, ok, sz, szL, storL, stor, renT, okT, has, upG, up, nth, roOk, keepsLive, wrB, lay, rcB, putH, pcB, hsB, Sx.look, nat1, Pc.eqv_sv]
    try (intro i hi; rcases i with _ | _ | i <;> first | omega | (simp [slot, lkL, fixed, rg, renH, chB, lookH, eqvL, eqv, eqvF, rnmL, rnm, liveN, lvB, goodH, gdB, okL, ok, sz, szL, storL, stor, renT, okT, has, upG, up, nth, roOk, keepsLive, wrB, lay, rcB, putH, pcB, hsB, Sx.look, nat1, Pc.eqv_sv] <;> rfl))
  · (try simp only [goodH, List.length_cons, List.length_nil, Nat.zero_add, Nat.reduceAdd, Pc.good_ch, good_lk1, good_lk2, and_true])
    try simp [slot, lkL, fixed, rg, renH, chB, lookH, eqvL, eqv, eqvF, rnmL, rnm, liveN, lvB, goodH, gdB, okL, ok, sz, szL, storL, stor, renT, okT, has, upG, up, nth, roOk, keepsLive, wrB, lay, rcB, putH, pcB, hsB, Sx.look, nat1, Pc.eqv_sv]
  · simp [slot, lkL, fixed, rg, renH, chB, lookH, eqvL, eqv, eqvF, rnmL, rnm, liveN, lvB, goodH, gdB, okL, ok, sz, szL, storL, stor, renT, okT, has, upG, up, nth, roOk, keepsLive, wrB, lay, rcB, putH, pcB, hsB, Sx.look, nat1, Pc.eqv_sv]
  · simp [slot, lkL, fixed, rg, renH, chB, lookH, eqvL, eqv, eqvF, rnmL, rnm, liveN, lvB, goodH, gdB, okL, ok, sz, szL, storL, stor, renT, okT, has, upG, up, nth, roOk, keepsLive, wrB, lay, rcB, putH, pcB, hsB, Sx.look, nat1, Pc.eqv_sv]
  · rintro v h' ⟨rfl, rfl⟩
    refine ⟨by simp [slot, lkL, fixed, rg, renH, chB, lookH, eqvL, eqv, eqvF, rnmL, rnm, liveN, lvB, goodH, gdB, okL, ok, sz, szL, storL, stor, renT, okT, has, upG, up, nth, roOk, keepsLive, wrB, lay, rcB, putH, pcB, hsB, Sx.look, nat1, Pc.eqv_sv], by simp [slot, lkL, fixed, rg, renH, chB, lookH, eqvL, eqv, eqvF, rnmL, rnm, liveN, lvB, goodH, gdB, okL, ok, sz, szL, storL, stor, renT, okT, has, upG, up, nth, roOk, keepsLive, wrB, lay, rcB, putH, pcB, hsB, Sx.look, nat1, Pc.eqv_sv], ?_⟩
    simp -implicitDefEqProofs (maxSteps := 1000000) (disch := omega) only [↓vcB, ↓gd, ↓opP, ↓qv, ↓ef, ↓bslS, ↓stS, ↓mkS, ↓mupS, ↓appS, ↓s2bS, ↓resS, evB, Sx.look, slot, ↓lkL, putS, putO, argsL, ↓reduceIte, ofV, of1, lookH, putH, List.length_cons, List.length_nil, List.length_append, List.replicate, List.append, List.cons_append, List.nil_append, List.append_assoc, List.map_cons, List.map_nil, convS, fldA, nthT, idxA, idxS, fldS, oslN, bnd, slS, unS, valI, lenS, lookS, takeC, psB, asRow, csB, Int.toNat_natCast, Int.le_refl, and_self, rdF, Ent.row, ldS, sz, szL, wrF, bldF, plT, bldS, srcS, nilS, nilEq, binS2, structS, eqL, eqF, binS, arrS, isI, tupS, stor, storL, Value.oneCell', minS, maxS, capS, true_and, and_true, Nat.reduceAdd, Nat.reduceSub, Nat.reduceMul, Nat.reduceLT, Nat.reduceLeDiff, Nat.reduceEqDiff, Nat.reduceBEq, Int.reduceToNat, Int.reduceNeg, Nat.zero_add, Nat.add_zero, Nat.sub_self, Nat.sub_zero, Nat.zero_mul, Nat.mul_one, Nat.zero_le, if_true, if_false, reduceIte, stays, inL, same1, qn, ldN, convN, lenN, List.mem_cons, List.not_mem_nil, Option.map_some, Option.map_none, cond_true, cond_false, Sx.imp_true, Sx.imp_false, implies_true, Int.reduceEq, Int.reduceNe, Int.reduceLE, Int.reduceLT, decide_true, decide_false, List.zipIdx_cons, List.zipIdx_nil, or_false, false_or, forall_eq_or_imp, forall_eq, ne_eq, reduceCtorEq, not_false_eq_true, Bool.false_eq_true, Bool.true_eq_false, Bool.not_true, Bool.not_false, notInt, numB, tabB, Array.reduceGetElem?, upG, up, nth, lay, rcB, rnm, rnmL, wrB, pcB, hsB, pl41, res37, hF', res39, res41]
    rw [← hF] at hK
    exact intoR_take [q.ch] rfl rfl (by simp only [goodH, Pc.good_ch, and_true]) (by simp [ok, sz]) hK

set_option maxHeartbeats 4000000 in
theorem c41l (D E : Nat → BitVec 8) (F : Nat → SV) (hF : (fun i => SV.int .u8 (nat (ndD D E i))) = F) (hS : 0 ≤ 70368744176000) (K : Tok → SV → List Chunk → Prop)
    (hK : K .mk (.fam 32 1 F) []) : callP Try.prog 41 [.fam 32 1 fun i => .int .u8 (nat (D i)), .fam 32 1 fun i => .int .u8 (nat (E i))] [] K := by
  refine callP_of_code tabOk Try.func41 (by kernel_rfl) rfl (Nat.le_of_ble_eq_true rfl) (codeP_of_vc (pl := pl41) tabOk follows_mixed (by kernel_rfl) ?_)
  rw [Try.ntmps41]
  have hF' : ∀ i, F i = .int .u8 (nat (ndD D E i)) := fun i => by rw [← hF]
  simp -implicitDefEqProofs (maxSteps := 1000000) (disch := omega) only [↓vcB, ↓gd, ↓opP, ↓qv, ↓ef, ↓bslS, ↓stS, ↓mkS, ↓mupS, ↓appS, ↓s2bS, ↓resS, evB, Sx.look, slot, ↓lkL, putS, putO, argsL, ↓reduceIte, ofV, of1, lookH, putH, List.length_cons, List.length_nil, List.length_append, List.replicate, List.append, List.cons_append, List.nil_append, List.append_assoc, List.map_cons, List.map_nil, convS, fldA, nthT, idxA, idxS, fldS, oslN, bnd, slS, unS, valI, lenS, lookS, takeC, psB, asRow, csB, Int.toNat_natCast, Int.le_refl, and_self, rdF, Ent.row, ldS, sz, szL, wrF, bldF, plT, bldS, srcS, nilS, nilEq, binS2, structS, eqL, eqF, binS, arrS, isI, tupS, stor, storL, Value.oneCell', minS, maxS, capS, true_and, and_true, Nat.reduceAdd, Nat.reduceSub, Nat.reduceMul, Nat.reduceLT, Nat.reduceLeDiff, Nat.reduceEqDiff, Nat.reduceBEq, Int.reduceToNat, Int.reduceNeg, Nat.zero_add, Nat.add_zero, Nat.sub_self, Nat.sub_zero, Nat.zero_mul, Nat.mul_one, Nat.zero_le, if_true, if_false, reduceIte, stays, inL, same1, qn, ldN, convN, lenN, List.mem_cons, List.not_mem_nil, Option.map_some, Option.map_none, cond_true, cond_false, Sx.imp_true, Sx.imp_false, implies_true, Int.reduceEq, Int.reduceNe, Int.reduceLE, Int.reduceLT, decide_true, decide_false, List.zipIdx_cons, List.zipIdx_nil, or_false, false_or, forall_eq_or_imp, forall_eq, ne_eq, reduceCtorEq, not_false_eq_true, Bool.false_eq_true, Bool.true_eq_false, Bool.not_true, Bool.not_false, notInt, numB, tabB, Array.reduceGetElem?, upG, up, nth, lay, rcB, rnm, rnmL, wrB, pcB, hsB, pl41, res37, hF', res39, res41]
  refine callP_frame (argsL := [.int .u8 (nat 2), .osl 2 0 0 1 2]) (KL := fun _ v h' => v = .fam 32 1 F ∧ h' = [(Pc.arr 32 D).ch, (Pc.arr 32 E).ch, .row false 2 1 (Sx.look [(Pc.arr 32 D).sv 0, (Pc.arr 32 E).sv 1])]) [0, 1, 3] (c62_2 2 (.arr 32 D) (.arr 32 E) F hF (by simp only [Pc.len_arr]; omega) _ ⟨rfl, rfl⟩) ?_ ?_ ?_ ?_ ?_ ?_
  · simp
  · simp [slot, lkL, fixed, rg, renH, chB, lookH, eqvL, eqv, eqvF, rnmL, rnm, liveN, lvB, goodH, gdB, okL, ok, sz, szL, storL, stor, renT, okT, has, upG, up, nth, roOk, keepsLive, wrB, lay, rcB, putH, pcB, hsB, Sx.look, nat2, Pc.eqv_sv, Pc.chEq_arr]
    try (intro i hi; rcases i with _ | _ | i <;> first | omega | (simp [slot, lkL, fixed, rg, renH, chB, lookH, eqvL, eqv, eqvF, rnmL, rnm, liveN, lvB, goodH, gdB, okL, ok, sz, szL, storL, stor, renT, okT, has, upG, up, nth, roOk, keepsLive, wrB, lay, rcB, putH, pcB, hsB, Sx.look, nat2, Pc.eqv_sv, Pc.chEq_arr] <;> rfl))
  · (try simp only [goodH, List.length_cons, List.length_nil, Nat.zero_add, Nat.reduceAdd, Pc.good_ch, good_lk1, good_lk2, and_true])
    try simp [slot, lkL, fixed, rg, renH, chB, lookH, eqvL, eqv, eqvF, rnmL, rnm, liveN, lvB, goodH, gdB, okL, ok, sz, szL, storL, stor, renT, okT, has, upG, up, nth, roOk, keepsLive, wrB, lay, rcB, putH, pcB, hsB, Sx.look, nat2, Pc.eqv_sv, Pc.chEq_arr]
  · simp [slot, lkL, fixed, rg, renH, chB, lookH, eqvL, eqv, eqvF, rnmL, rnm, liveN, lvB, goodH, gdB, okL, ok, sz, szL, storL, stor, renT, okT, has, upG, up, nth, roOk, keepsLive, wrB, lay, rcB, putH, pcB, hsB, Sx.look, nat2, Pc.eqv_sv, Pc.chEq_arr]
  · simp [slot, lkL, fixed, rg, renH, chB, lookH, eqvL, eqv, eqvF, rnmL, rnm, liveN, lvB, goodH, gdB, okL, ok, sz, szL, storL, stor, renT, okT, has, upG, up, nth, roOk, keepsLive, wrB, lay, rcB, putH, pcB, hsB, Sx.look, nat2, Pc.eqv_sv, Pc.chEq_arr]
  · rintro v h' ⟨rfl, rfl⟩
    refine ⟨by simp [slot, lkL, fixed, rg, renH, chB, lookH, eqvL, eqv, eqvF, rnmL, rnm, liveN, lvB, goodH, gdB, okL, ok, sz, szL, storL, stor, renT, okT, has, upG, up, nth, roOk, keepsLive, wrB, lay, rcB, putH, pcB, hsB, Sx.look, nat2, Pc.eqv_sv, Pc.chEq_arr], by simp [slot, lkL, fixed, rg, renH, chB, lookH, eqvL, eqv, eqvF, rnmL, rnm, liveN, lvB, goodH, gdB, okL, ok, sz, szL, storL, stor, renT, okT, has, upG, up, nth, roOk, keepsLive, wrB, lay, rcB, putH, pcB, hsB, Sx.look, nat2, Pc.eqv_sv, Pc.chEq_arr], ?_⟩
    simp -implicitDefEqProofs (maxSteps := 1000000) (disch := omega) only [↓vcB, ↓gd, ↓opP, ↓qv, ↓ef, ↓bslS, ↓stS, ↓mkS, ↓mupS, ↓appS, ↓s2bS, ↓resS, evB, Sx.look, slot, ↓lkL, putS, putO, argsL, ↓reduceIte, ofV, of1, lookH, putH, List.length_cons, List.length_nil, List.length_append, List.replicate, List.append, List.cons_append, List.nil_append, List.append_assoc, List.map_cons, List.map_nil, convS, fldA, nthT, idxA, idxS, fldS, oslN, bnd, slS, unS, valI, lenS, lookS, takeC, psB, asRow, csB, Int.toNat_natCast, Int.le_refl, and_self, rdF, Ent.row, ldS, sz, szL, wrF, bldF, plT, bldS, srcS, nilS, nilEq, binS2, structS, eqL, eqF, binS, arrS, isI, tupS, stor, storL, Value.oneCell', minS, maxS, capS, true_and, and_true, Nat.reduceAdd, Nat.reduceSub, Nat.reduceMul, Nat.reduceLT, Nat.reduceLeDiff, Nat.reduceEqDiff, Nat.reduceBEq, Int.reduceToNat, Int.reduceNeg, Nat.zero_add, Nat.add_zero, Nat.sub_self, Nat.sub_zero, Nat.zero_mul, Nat.mul_one, Nat.zero_le, if_true, if_false, reduceIte, stays, inL, same1, qn, ldN, convN, lenN, List.mem_cons, List.not_mem_nil, Option.map_some, Option.map_none, cond_true, cond_false, Sx.imp_true, Sx.imp_false, implies_true, Int.reduceEq, Int.reduceNe, Int.reduceLE, Int.reduceLT, decide_true, decide_false, List.zipIdx_cons, List.zipIdx_nil, or_false, false_or, forall_eq_or_imp, forall_eq, ne_eq, reduceCtorEq, not_false_eq_true, Bool.false_eq_true, Bool.true_eq_false, Bool.not_true, Bool.not_false, notInt, numB, tabB, Array.reduceGetElem?, upG, up, nth, lay, rcB, rnm, rnmL, wrB, pcB, hsB, pl41, res37, hF', res39, res41]
    rw [← hF] at hK
    exact intoR_take [] rfl rfl (by simp only [goodH, Pc.good_ch, and_true]) (by simp [ok, sz]) hK

set_option maxHeartbeats 4000000 in
theorem c40l  (q : Pc) (F : Nat → SV) (hF : (fun i => SV.int .u8 (nat (lfD q i))) = F) (hS : q.len ≤ 70368744176000) (K : Tok → SV → List Chunk → Prop)
    (hK : K .mk (.fam 32 1 F) [q.ch]) : callP Try.prog 40 [q.sv 0] [q.ch] K := by
  have hF' : ∀ i, F i = .int .u8 (nat (lfD q i)) := fun i => by rw [← hF]
  cases q with
  | row len B =>
    have hl : len ≤ 70368744176000 := hS
    change callP Try.prog 40 [.osl 0 0 0 1 len] [.row false len 1 fun i => .int .u8 (nat (B i))] K
    change K .mk (.fam 32 1 F) [.row false len 1 fun i => .int .u8 (nat (B i))] at hK
    refine callP_of_code tabOk Try.func40 (by kernel_rfl) rfl (Nat.le_of_ble_eq_true rfl) (codeP_of_vc (pl := np) tabOk follows_mixed (by kernel_rfl) ?_)
    rw [Try.ntmps40]
    simp -implicitDefEqProofs (maxSteps := 1000000) (disch := omega) only [↓vcB, ↓gd, ↓opP, ↓qv, ↓ef, ↓bslS, ↓stS, ↓mkS, ↓mupS, ↓appS, ↓s2bS, ↓resS, evB, Sx.look, slot, ↓lkL, putS, putO, argsL, ↓reduceIte, ofV, of1, lookH, putH, List.length_cons, List.length_nil, List.length_append, List.replicate, List.append, List.cons_append, List.nil_append, List.append_assoc, List.map_cons, List.map_nil, convS, fldA, nthT, idxA, idxS, fldS, oslN, bnd, slS, unS, valI, lenS, lookS, takeC, psB, asRow, csB, Int.toNat_natCast, Int.le_refl, and_self, rdF, Ent.row, ldS, sz, szL, wrF, bldF, plT, bldS, srcS, nilS, nilEq, binS2, structS, eqL, eqF, binS, arrS, isI, tupS, stor, storL, Value.oneCell', minS, maxS, capS, true_and, and_true, Nat.reduceAdd, Nat.reduceSub, Nat.reduceMul, Nat.reduceLT, Nat.reduceLeDiff, Nat.reduceEqDiff, Nat.reduceBEq, Int.reduceToNat, Int.reduceNeg, Nat.zero_add, Nat.add_zero, Nat.sub_self, Nat.sub_zero, Nat.zero_mul, Nat.mul_one, Nat.zero_le, if_true, if_false, reduceIte, stays, inL, same1, qn, ldN, convN, lenN, List.mem_cons, List.not_mem_nil, Option.map_some, Option.map_none, cond_true, cond_false, Sx.imp_true, Sx.imp_false, implies_true, Int.reduceEq, Int.reduceNe, Int.reduceLE, Int.reduceLT, decide_true, decide_false, List.zipIdx_cons, List.zipIdx_nil, or_false, false_or, forall_eq_or_imp, forall_eq, ne_eq, reduceCtorEq, not_false_eq_true, Bool.false_eq_true, Bool.true_eq_false, Bool.not_true, Bool.not_false, notInt, numB, tabB, Array.reduceGetElem?, upG, up, nth, lay, rcB, rnm, rnmL, wrB, pcB, hsB, pl42, res38, res40, res42, hF']
    try refine ⟨by (try and_intros) <;> omega, ?_⟩
    refine c23' (1 + len) (1 + len) (cat 1 (kF 1) B) _ ?_ (by omega) (by omega) true rfl (by simp) F hF _ ?_
    · intro i hi
      by_cases h1 : i < 1
      · obtain rfl : i = 0 := by omega
        simp [cat, kF, nat, Sx.look]
      · first | (exfalso; omega) | simp [cat, h1]
    simp -implicitDefEqProofs (maxSteps := 1000000) (disch := omega) only [↓vcB, ↓gd, ↓opP, ↓qv, ↓ef, ↓bslS, ↓stS, ↓mkS, ↓mupS, ↓appS, ↓s2bS, ↓resS, evB, Sx.look, slot, ↓lkL, putS, putO, argsL, ↓reduceIte, ofV, of1, lookH, putH, List.length_cons, List.length_nil, List.length_append, List.replicate, List.append, List.cons_append, List.nil_append, List.append_assoc, List.map_cons, List.map_nil, convS, fldA, nthT, idxA, idxS, fldS, oslN, bnd, slS, unS, valI, lenS, lookS, takeC, psB, asRow, csB, Int.toNat_natCast, Int.le_refl, and_self, rdF, Ent.row, ldS, sz, szL, wrF, bldF, plT, bldS, srcS, nilS, nilEq, binS2, structS, eqL, eqF, binS, arrS, isI, tupS, stor, storL, Value.oneCell', minS, maxS, capS, true_and, and_true, Nat.reduceAdd, Nat.reduceSub, Nat.reduceMul, Nat.reduceLT, Nat.reduceLeDiff, Nat.reduceEqDiff, Nat.reduceBEq, Int.reduceToNat, Int.reduceNeg, Nat.zero_add, Nat.add_zero, Nat.sub_self, Nat.sub_zero, Nat.zero_mul, Nat.mul_one, Nat.zero_le, if_true, if_false, reduceIte, stays, inL, same1, qn, ldN, convN, lenN, List.mem_cons, List.not_mem_nil, Option.map_some, Option.map_none, cond_true, cond_false, Sx.imp_true, Sx.imp_false, implies_true, Int.reduceEq, Int.reduceNe, Int.reduceLE, Int.reduceLT, decide_true, decide_false, List.zipIdx_cons, List.zipIdx_nil, or_false, false_or, forall_eq_or_imp, forall_eq, ne_eq, reduceCtorEq, not_false_eq_true, Bool.false_eq_true, Bool.true_eq_false, Bool.not_true, Bool.not_false, notInt, numB, tabB, Array.reduceGetElem?, upG, up, nth, lay, rcB, rnm, rnmL, wrB, pcB, hsB, pl42, res38, res40, res42, hF']
    exact intoR_take [.row false len 1 fun i => .int .u8 (nat (B i))] rfl rfl (by simp [slot, lkL, fixed, rg, renH, chB, lookH, eqvL, eqv, eqvF, rnmL, rnm, liveN, lvB, goodH, gdB, okL, ok, sz, szL, storL, stor, renT, okT, pcB, hsB]) (by simp [ok, sz, hF']) hK
  | arr len B =>
    have hl : len ≤ 70368744176000 := hS
    change callP Try.prog 40 [.sl 0 0 0 1 len len] [.cells false [.fam len 1 fun i => .int .u8 (nat (B i))]] K
    change K .mk (.fam 32 1 F) [.cells false [.fam len 1 fun i => .int .u8 (nat (B i))]] at hK
    refine callP_of_code tabOk Try.func40 (by kernel_rfl) rfl (Nat.le_of_ble_eq_true rfl) (codeP_of_vc (pl := np) tabOk follows_mixed (by kernel_rfl) ?_)
    rw [Try.ntmps40]
    simp -implicitDefEqProofs (maxSteps := 1000000) (disch := omega) only [↓vcB, ↓gd, ↓opP, ↓qv, ↓ef, ↓bslS, ↓stS, ↓mkS, ↓mupS, ↓appS, ↓s2bS, ↓resS, evB, Sx.look, slot, ↓lkL, putS, putO, argsL, ↓reduceIte, ofV, of1, lookH, putH, List.length_cons, List.length_nil, List.length_append, List.replicate, List.append, List.cons_append, List.nil_append, List.append_assoc, List.map_cons, List.map_nil, convS, fldA, nthT, idxA, idxS, fldS, oslN, bnd, slS, unS, valI, lenS, lookS, takeC, psB, asRow, csB, Int.toNat_natCast, Int.le_refl, and_self, rdF, Ent.row, ldS, sz, szL, wrF, bldF, plT, bldS, srcS, nilS, nilEq, binS2, structS, eqL, eqF, binS, arrS, isI, tupS, stor, storL, Value.oneCell', minS, maxS, capS, true_and, and_true, Nat.reduceAdd, Nat.reduceSub, Nat.reduceMul, Nat.reduceLT, Nat.reduceLeDiff, Nat.reduceEqDiff, Nat.reduceBEq, Int.reduceToNat, Int.reduceNeg, Nat.zero_add, Nat.add_zero, Nat.sub_self, Nat.sub_zero, Nat.zero_mul, Nat.mul_one, Nat.zero_le, if_true, if_false, reduceIte, stays, inL, same1, qn, ldN, convN, lenN, List.mem_cons, List.not_mem_nil, Option.map_some, Option.map_none, cond_true, cond_false, Sx.imp_true, Sx.imp_false, implies_true, Int.reduceEq, Int.reduceNe, Int.reduceLE, Int.reduceLT, decide_true, decide_false, List.zipIdx_cons, List.zipIdx_nil, or_false, false_or, forall_eq_or_imp, forall_eq, ne_eq, reduceCtorEq, not_false_eq_true, Bool.false_eq_true, Bool.true_eq_false, Bool.not_true, Bool.not_false, notInt, numB, tabB, Array.reduceGetElem?, upG, up, nth, lay, rcB, rnm, rnmL, wrB, pcB, hsB, pl42, res38, res40, res42, hF']
    try refine ⟨by (try and_intros) <;> omega, ?_⟩
    refine c23' (1 + len) (1 + len) (cat 1 (kF 1) B) _ ?_ (by omega) (by omega) true rfl (by simp) F hF _ ?_
    · intro i hi
      by_cases h1 : i < 1
      · obtain rfl : i = 0 := by omega
        simp [cat, kF, nat, Sx.look]
      · first | (exfalso; omega) | simp [cat, h1]
    simp -implicitDefEqProofs (maxSteps := 1000000) (disch := omega) only [↓vcB, ↓gd, ↓opP, ↓qv, ↓ef, ↓bslS, ↓stS, ↓mkS, ↓mupS, ↓appS, ↓s2bS, ↓resS, evB, Sx.look, slot, ↓lkL, putS, putO, argsL, ↓reduceIte, ofV, of1, lookH, putH, List.length_cons, List.length_nil, List.length_append, List.replicate, List.append, List.cons_append, List.nil_append, List.append_assoc, List.map_cons, List.map_nil, convS, fldA, nthT, idxA, idxS, fldS, oslN, bnd, slS, unS, valI, lenS, lookS, takeC, psB, asRow, csB, Int.toNat_natCast, Int.le_refl, and_self, rdF, Ent.row, ldS, sz, szL, wrF, bldF, plT, bldS, srcS, nilS, nilEq, binS2, structS, eqL, eqF, binS, arrS, isI, tupS, stor, storL, Value.oneCell', minS, maxS, capS, true_and, and_true, Nat.reduceAdd, Nat.reduceSub, Nat.reduceMul, Nat.reduceLT, Nat.reduceLeDiff, Nat.reduceEqDiff, Nat.reduceBEq, Int.reduceToNat, Int.reduceNeg, Nat.zero_add, Nat.add_zero, Nat.sub_self, Nat.sub_zero, Nat.zero_mul, Nat.mul_one, Nat.zero_le, if_true, if_false, reduceIte, stays, inL, same1, qn, ldN, convN, lenN, List.mem_cons, List.not_mem_nil, Option.map_some, Option.map_none, cond_true, cond_false, Sx.imp_true, Sx.imp_false, implies_true, Int.reduceEq, Int.reduceNe, Int.reduceLE, Int.reduceLT, decide_true, decide_false, List.zipIdx_cons, List.zipIdx_nil, or_false, false_or, forall_eq_or_imp, forall_eq, ne_eq, reduceCtorEq, not_false_eq_true, Bool.false_eq_true, Bool.true_eq_false, Bool.not_true, Bool.not_false, notInt, numB, tabB, Array.reduceGetElem?, upG, up, nth, lay, rcB, rnm, rnmL, wrB, pcB, hsB, pl42, res38, res40, res42, hF']
    exact intoR_take [.cells false [.fam len 1 fun i => .int .u8 (nat (B i))]] rfl rfl (by simp [slot, lkL, fixed, rg, renH, chB, lookH, eqvL, eqv, eqvF, rnmL, rnm, liveN, lvB, goodH, gdB, okL, ok, sz, szL, storL, stor, renT, okT, pcB, hsB]) (by simp [ok, sz, hF']) hK
  | nil a c =>
    have hl : 0 ≤ 70368744176000 := hS
    change callP Try.prog 40 [.v (.slice a 0 c)] [.row false 0 1 fun _ => .int .u8 0] K
    change K .mk (.fam 32 1 F) [.row false 0 1 fun _ => .int .u8 0] at hK
    refine callP_of_code tabOk Try.func40 (by kernel_rfl) rfl (Nat.le_of_ble_eq_true rfl) (codeP_of_vc (pl := np) tabOk follows_mixed (by kernel_rfl) ?_)
    rw [Try.ntmps40]
    simp -implicitDefEqProofs (maxSteps := 1000000) (disch := omega) only [↓vcB, ↓gd, ↓opP, ↓qv, ↓ef, ↓bslS, ↓stS, ↓mkS, ↓mupS, ↓appS, ↓s2bS, ↓resS, evB, Sx.look, slot, ↓lkL, putS, putO, argsL, ↓reduceIte, ofV, of1, lookH, putH, List.length_cons, List.length_nil, List.length_append, List.replicate, List.append, List.cons_append, List.nil_append, List.append_assoc, List.map_cons, List.map_nil, convS, fldA, nthT, idxA, idxS, fldS, oslN, bnd, slS, unS, valI, lenS, lookS, takeC, psB, asRow, csB, Int.toNat_natCast, Int.le_refl, and_self, rdF, Ent.row, ldS, sz, szL, wrF, bldF, plT, bldS, srcS, nilS, nilEq, binS2, structS, eqL, eqF, binS, arrS, isI, tupS, stor, storL, Value.oneCell', minS, maxS, capS, true_and, and_true, Nat.reduceAdd, Nat.reduceSub, Nat.reduceMul, Nat.reduceLT, Nat.reduceLeDiff, Nat.reduceEqDiff, Nat.reduceBEq, Int.reduceToNat, Int.reduceNeg, Nat.zero_add, Nat.add_zero, Nat.sub_self, Nat.sub_zero, Nat.zero_mul, Nat.mul_one, Nat.zero_le, if_true, if_false, reduceIte, stays, inL, same1, qn, ldN, convN, lenN, List.mem_cons, List.not_mem_nil, Option.map_some, Option.map_none, cond_true, cond_false, Sx.imp_true, Sx.imp_false, implies_true, Int.reduceEq, Int.reduceNe, Int.reduceLE, Int.reduceLT, decide_true, decide_false, List.zipIdx_cons, List.zipIdx_nil, or_false, false_or, forall_eq_or_imp, forall_eq, ne_eq, reduceCtorEq, not_false_eq_true, Bool.false_eq_true, Bool.true_eq_false, Bool.not_true, Bool.not_false, notInt, numB, tabB, Array.reduceGetElem?, upG, up, nth, lay, rcB, rnm, rnmL, wrB, pcB, hsB, pl42, res38, res40, res42, hF']
    try refine ⟨by (try and_intros) <;> omega, ?_⟩
    refine c23' (1 + 0) (1 + 0) (cat 1 (kF 1) (fun _ => 0)) _ ?_ (by omega) (by omega) true rfl (by simp) F hF _ ?_
    · intro i hi
      by_cases h1 : i < 1
      · obtain rfl : i = 0 := by omega
        simp [cat, kF, nat, Sx.look]
      · first | (exfalso; omega) | simp [cat, h1]
    simp -implicitDefEqProofs (maxSteps := 1000000) (disch := omega) only [↓vcB, ↓gd, ↓opP, ↓qv, ↓ef, ↓bslS, ↓stS, ↓mkS, ↓mupS, ↓appS, ↓s2bS, ↓resS, evB, Sx.look, slot, ↓lkL, putS, putO, argsL, ↓reduceIte, ofV, of1, lookH, putH, List.length_cons, List.length_nil, List.length_append, List.replicate, List.append, List.cons_append, List.nil_append, List.append_assoc, List.map_cons, List.map_nil, convS, fldA, nthT, idxA, idxS, fldS, oslN, bnd, slS, unS, valI, lenS, lookS, takeC, psB, asRow, csB, Int.toNat_natCast, Int.le_refl, and_self, rdF, Ent.row, ldS, sz, szL, wrF, bldF, plT, bldS, srcS, nilS, nilEq, binS2, structS, eqL, eqF, binS, arrS, isI, tupS, stor, storL, Value.oneCell', minS, maxS, capS, true_and, and_true, Nat.reduceAdd, Nat.reduceSub, Nat.reduceMul, Nat.reduceLT, Nat.reduceLeDiff, Nat.reduceEqDiff, Nat.reduceBEq, Int.reduceToNat, Int.reduceNeg, Nat.zero_add, Nat.add_zero, Nat.sub_self, Nat.sub_zero, Nat.zero_mul, Nat.mul_one, Nat.zero_le, if_true, if_false, reduceIte, stays, inL, same1, qn, ldN, convN, lenN, List.mem_cons, List.not_mem_nil, Option.map_some, Option.map_none, cond_true, cond_false, Sx.imp_true, Sx.imp_false, implies_true, Int.reduceEq, Int.reduceNe, Int.reduceLE, Int.reduceLT, decide_true, decide_false, List.zipIdx_cons, List.zipIdx_nil, or_false, false_or, forall_eq_or_imp, forall_eq, ne_eq, reduceCtorEq, not_false_eq_true, Bool.false_eq_true, Bool.true_eq_false, Bool.not_true, Bool.not_false, notInt, numB, tabB, Array.reduceGetElem?, upG, up, nth, lay, rcB, rnm, rnmL, wrB, pcB, hsB, pl42, res38, res40, res42, hF']
    exact intoR_take [.row false 0 1 fun _ => .int .u8 0] rfl rfl (by simp [slot, lkL, fixed, rg, renH, chB, lookH, eqvL, eqv, eqvF, rnmL, rnm, liveN, lvB, goodH, gdB, okL, ok, sz, szL, storL, stor, renT, okT, pcB, hsB]) (by simp [ok, sz, hF']) hK

set_option maxHeartbeats 4000000 in
theorem c38l (D : Nat → BitVec 8) (q : Pc) (F : Nat → SV) (hF : (fun i => SV.int .u8 (nat (lkD D q i))) = F) (hS : q.len ≤ 70368744176000) (K : Tok → SV → List Chunk → Prop)
    (hK : K .mk (.fam 32 1 F) [q.ch]) : callP Try.prog 38 [.fam 32 1 fun i => .int .u8 (nat (D i)), q.sv 0] [q.ch] K := by
  have hF' : ∀ i, F i = .int .u8 (nat (lkD D q i)) := fun i => by rw [← hF]
  cases q with
  | row len B =>
    have hl : len ≤ 70368744176000 := hS
    change callP Try.prog 38 [.fam 32 1 fun i => .int .u8 (nat (D i)), .osl 0 0 0 1 len] [.row false len 1 fun i => .int .u8 (nat (B i))] K
    change K .mk (.fam 32 1 F) [.row false len 1 fun i => .int .u8 (nat (B i))] at hK
    refine callP_of_code tabOk Try.func38 (by kernel_rfl) rfl (Nat.le_of_ble_eq_true rfl) (codeP_of_vc (pl := np) tabOk follows_mixed (by kernel_rfl) ?_)
    rw [Try.ntmps38]
    simp -implicitDefEqProofs (maxSteps := 1000000) (disch := omega) only [↓vcB, ↓gd, ↓opP, ↓qv, ↓ef, ↓bslS, ↓stS, ↓mkS, ↓mupS, ↓appS, ↓s2bS, ↓resS, evB, Sx.look, slot, ↓lkL, putS, putO, argsL, ↓reduceIte, ofV, of1, lookH, putH, List.length_cons, List.length_nil, List.length_append, List.replicate, List.append, List.cons_append, List.nil_append, List.append_assoc, List.map_cons, List.map_nil, convS, fldA, nthT, idxA, idxS, fldS, oslN, bnd, slS, unS, valI, lenS, lookS, takeC, psB, asRow, csB, Int.toNat_natCast, Int.le_refl, and_self, rdF, Ent.row, ldS, sz, szL, wrF, bldF, plT, bldS, srcS, nilS, nilEq, binS2, structS, eqL, eqF, binS, arrS, isI, tupS, stor, storL, Value.oneCell', minS, maxS, capS, true_and, and_true, Nat.reduceAdd, Nat.reduceSub, Nat.reduceMul, Nat.reduceLT, Nat.reduceLeDiff, Nat.reduceEqDiff, Nat.reduceBEq, Int.reduceToNat, Int.reduceNeg, Nat.zero_add, Nat.add_zero, Nat.sub_self, Nat.sub_zero, Nat.zero_mul, Nat.mul_one, Nat.zero_le, if_true, if_false, reduceIte, stays, inL, same1, qn, ldN, convN, lenN, List.mem_cons, List.not_mem_nil, Option.map_some, Option.map_none, cond_true, cond_false, Sx.imp_true, Sx.imp_false, implies_true, Int.reduceEq, Int.reduceNe, Int.reduceLE, Int.reduceLT, decide_true, decide_false, List.zipIdx_cons, List.zipIdx_nil, or_false, false_or, forall_eq_or_imp, forall_eq, ne_eq, reduceCtorEq, not_false_eq_true, Bool.false_eq_true, Bool.true_eq_false, Bool.not_true, Bool.not_false, notInt, numB, tabB, Array.reduceGetElem?, upG, up, nth, lay, rcB, rnm, rnmL, wrB, pcB, hsB, pl42, res38, res40, res42, hF']
    try refine ⟨by (try and_intros) <;> omega, ?_⟩
    try refine ⟨by (try and_intros) <;> omega, ?_⟩
    refine c23' (1 + 32 + len) (1 + 32 + len) (cat (1 + 32) (cat 1 (kF 0) D) B) _ ?_ (by omega) (by omega) true rfl (by simp) F hF _ ?_
    · intro i hi
      by_cases h1 : i < 1
      · obtain rfl : i = 0 := by omega
        simp [cat, kF, nat, Sx.look]
      · by_cases h2 : i < 1 + 32
        · have h3 : i < 33 := h2
          simp [cat, h1, h3]
        · have h3 : ¬ i < 33 := h2
          first | (exfalso; omega) | simp [cat, h1, h3]
    simp -implicitDefEqProofs (maxSteps := 1000000) (disch := omega) only [↓vcB, ↓gd, ↓opP, ↓qv, ↓ef, ↓bslS, ↓stS, ↓mkS, ↓mupS, ↓appS, ↓s2bS, ↓resS, evB, Sx.look, slot, ↓lkL, putS, putO, argsL, ↓reduceIte, ofV, of1, lookH, putH, List.length_cons, List.length_nil, List.length_append, List.replicate, List.append, List.cons_append, List.nil_append, List.append_assoc, List.map_cons, List.map_nil, convS, fldA, nthT, idxA, idxS, fldS, oslN, bnd, slS, unS, valI, lenS, lookS, takeC, psB, asRow, csB, Int.toNat_natCast, Int.le_refl, and_self, rdF, Ent.row, ldS, sz, szL, wrF, bldF, plT, bldS, srcS, nilS, nilEq, binS2, structS, eqL, eqF, binS, arrS, isI, tupS, stor, storL, Value.oneCell', minS, maxS, capS, true_and, and_true, Nat.reduceAdd, Nat.reduceSub, Nat.reduceMul, Nat.reduceLT, Nat.reduceLeDiff, Nat.reduceEqDiff, Nat.reduceBEq, Int.reduceToNat, Int.reduceNeg, Nat.zero_add, Nat.add_zero, Nat.sub_self, Nat.sub_zero, Nat.zero_mul, Nat.mul_one, Nat.zero_le, if_true, if_false, reduceIte, stays, inL, same1, qn, ldN, convN, lenN, List.mem_cons, List.not_mem_nil, Option.map_some, Option.map_none, cond_true, cond_false, Sx.imp_true, Sx.imp_false, implies_true, Int.reduceEq, Int.reduceNe, Int.reduceLE, Int.reduceLT, decide_true, decide_false, List.zipIdx_cons, List.zipIdx_nil, or_false, false_or, forall_eq_or_imp, forall_eq, ne_eq, reduceCtorEq, not_false_eq_true, Bool.false_eq_true, Bool.true_eq_false, Bool.not_true, Bool.not_false, notInt, numB, tabB, Array.reduceGetElem?, upG, up, nth, lay, rcB, rnm, rnmL, wrB, pcB, hsB, pl42, res38, res40, res42, hF']
    exact intoR_take [.row false len 1 fun i => .int .u8 (nat (B i))] rfl rfl (by simp [slot, lkL, fixed, rg, renH, chB, lookH, eqvL, eqv, eqvF, rnmL, rnm, liveN, lvB, goodH, gdB, okL, ok, sz, szL, storL, stor, renT, okT, pcB, hsB]) (by simp [ok, sz, hF']) hK
  | arr len B =>
    have hl : len ≤ 70368744176000 := hS
    change callP Try.prog 38 [.fam 32 1 fun i => .int .u8 (nat (D i)), .sl 0 0 0 1 len len] [.cells false [.fam len 1 fun i => .int .u8 (nat (B i))]] K
    change K .mk (.fam 32 1 F) [.cells false [.fam len 1 fun i => .int .u8 (nat (B i))]] at hK
    refine callP_of_code tabOk Try.func38 (by kernel_rfl) rfl (Nat.le_of_ble_eq_true rfl) (codeP_of_vc (pl := np) tabOk follows_mixed (by kernel_rfl) ?_)
    rw [Try.ntmps38]
    simp -implicitDefEqProofs (maxSteps := 1000000) (disch := omega) only [↓vcB, ↓gd, ↓opP, ↓qv, ↓ef, ↓bslS, ↓stS, ↓mkS, ↓mupS, ↓appS, ↓s2bS, ↓resS, evB, Sx.look, slot, ↓lkL, putS, putO, argsL, ↓reduceIte, ofV, of1, lookH, putH, List.length_cons, List.length_nil, List.length_append, List.replicate, List.append, List.cons_append, List.nil_append, List.append_assoc, List.map_cons, List.map_nil, convS, fldA, nthT, idxA, idxS, fldS, oslN, bnd, slS, unS, valI, lenS, lookS, takeC, psB, asRow, csB, Int.toNat_natCast, Int.le_refl, and_self, rdF, Ent.row, ldS, sz, szL, wrF, bldF, plT, bldS, srcS, nilS, nilEq, binS2, structS, eqL, eqF, binS, arrS, isI, tupS, stor, storL, Value.oneCell', minS, maxS, capS, true_and, and_true, Nat.reduceAdd, Nat.reduceSub, Nat.reduceMul, Nat.reduceLT, Nat.reduceLeDiff, Nat.reduceEqDiff, Nat.reduceBEq, Int.reduceToNat, Int.reduceNeg, Nat.zero_add, Nat.add_zero, Nat.sub_self, Nat.sub_zero, Nat.zero_mul, Nat.mul_one, Nat.zero_le, if_true, if_false, reduceIte, stays, inL, same1, qn, ldN, convN, lenN, List.mem_cons, List.not_mem_nil, Option.map_some, Option.map_none, cond_true, cond_false, Sx.imp_true, Sx.imp_false, implies_true, Int.reduceEq, Int.reduceNe, Int.reduceLE, Int.reduceLT, decide_true, decide_false, List.zipIdx_cons, List.zipIdx_nil, or_false, false_or, forall_eq_or_imp, forall_eq, ne_eq, reduceCtorEq, not_false_eq_true, Bool.false_eq_true, Bool.true_eq_false, Bool.not_true, Bool.not_false, notInt, numB, tabB, Array.reduceGetElem?, upG, up, nth, lay, rcB, rnm, rnmL, wrB, pcB, hsB, pl42, res38, res40, res42, hF']
    try refine ⟨by (try and_intros) <;> omega, ?_⟩
    try refine ⟨by (try and_intros) <;> omega, ?_⟩
    refine c23' (1 + 32 + len) (1 + 32 + len) (cat (1 + 32) (cat 1 (kF 0) D) B) _ ?_ (by omega) (by omega) true rfl (by simp) F hF _ ?_
    · intro i hi
      by_cases h1 : i < 1
      · obtain rfl : i = 0 := by omega
        simp [cat, kF, nat, Sx.look]
      · by_cases h2 : i < 1 + 32
        · have h3 : i < 33 := h2
          simp [cat, h1, h3]
        · have h3 : ¬ i < 33 := h2
          first | (exfalso; omega) | simp [cat, h1, h3]
    simp -implicitDefEqProofs (maxSteps := 1000000) (disch := omega) only [↓vcB, ↓gd, ↓opP, ↓qv, ↓ef, ↓bslS, ↓stS, ↓mkS, ↓mupS, ↓appS, ↓s2bS, ↓resS, evB, Sx.look, slot, ↓lkL, putS, putO, argsL, ↓reduceIte, ofV, of1, lookH, putH, List.length_cons, List.length_nil, List.length_append, List.replicate, List.append, List.cons_append, List.nil_append, List.append_assoc, List.map_cons, List.map_nil, convS, fldA, nthT, idxA, idxS, fldS, oslN, bnd, slS, unS, valI, lenS, lookS, takeC, psB, asRow, csB, Int.toNat_natCast, Int.le_refl, and_self, rdF, Ent.row, ldS, sz, szL, wrF, bldF, plT, bldS, srcS, nilS, nilEq, binS2, structS, eqL, eqF, binS, arrS, isI, tupS, stor, storL, Value.oneCell', minS, maxS, capS, true_and, and_true, Nat.reduceAdd, Nat.reduceSub, Nat.reduceMul, Nat.reduceLT, Nat.reduceLeDiff, Nat.reduceEqDiff, Nat.reduceBEq, Int.reduceToNat, Int.reduceNeg, Nat.zero_add, Nat.add_zero, Nat.sub_self, Nat.sub_zero, Nat.zero_mul, Nat.mul_one, Nat.zero_le, if_true, if_false, reduceIte, stays, inL, same1, qn, ldN, convN, lenN, List.mem_cons, List.not_mem_nil, Option.map_some, Option.map_none, cond_true, cond_false, Sx.imp_true, Sx.imp_false, implies_true, Int.reduceEq, Int.reduceNe, Int.reduceLE, Int.reduceLT, decide_true, decide_false, List.zipIdx_cons, List.zipIdx_nil, or_false, false_or, forall_eq_or_imp, forall_eq, ne_eq, reduceCtorEq, not_false_eq_true, Bool.false_eq_true, Bool.true_eq_false, Bool.not_true, Bool.not_false, notInt, numB, tabB, Array.reduceGetElem?, upG, up, nth, lay, rcB, rnm, rnmL, wrB, pcB, hsB, pl42, res38, res40, res42, hF']
    exact intoR_take [.cells false [.fam len 1 fun i => .int .u8 (nat (B i))]] rfl rfl (by simp [slot, lkL, fixed, rg, renH, chB, lookH, eqvL, eqv, eqvF, rnmL, rnm, liveN, lvB, goodH, gdB, okL, ok, sz, szL, storL, stor, renT, okT, pcB, hsB]) (by simp [ok, sz, hF']) hK
  | nil a c =>
    have hl : 0 ≤ 70368744176000 := hS
    change callP Try.prog 38 [.fam 32 1 fun i => .int .u8 (nat (D i)), .v (.slice a 0 c)] [.row false 0 1 fun _ => .int .u8 0] K
    change K .mk (.fam 32 1 F) [.row false 0 1 fun _ => .int .u8 0] at hK
    refine callP_of_code tabOk Try.func38 (by kernel_rfl) rfl (Nat.le_of_ble_eq_true rfl) (codeP_of_vc (pl := np) tabOk follows_mixed (by kernel_rfl) ?_)
    rw [Try.ntmps38]
    simp -implicitDefEqProofs (maxSteps := 1000000) (disch := omega) only [↓vcB, ↓gd, ↓opP, ↓qv, ↓ef, ↓bslS, ↓stS, ↓mkS, ↓mupS, ↓appS, ↓s2bS, ↓resS, evB, Sx.look, slot, ↓lkL, putS, putO, argsL, ↓reduceIte, ofV, of1, lookH, putH, List.length_cons, List.length_nil, List.length_append, List.replicate, List.append, List.cons_append, List.nil_append, List.append_assoc, List.map_cons, List.map_nil, convS, fldA, nthT, idxA, idxS, fldS, oslN, bnd, slS, unS, valI, lenS, lookS, takeC, psB, asRow, csB, Int.toNat_natCast, Int.le_refl, and_self, rdF, Ent.row, ldS, sz, szL, wrF, bldF, plT, bldS, srcS, nilS, nilEq, binS2, structS, eqL, eqF, binS, arrS, isI, tupS, stor, storL, Value.oneCell', minS, maxS, capS, true_and, and_true, Nat.reduceAdd, Nat.reduceSub, Nat.reduceMul, Nat.reduceLT, Nat.reduceLeDiff, Nat.reduceEqDiff, Nat.reduceBEq, Int.reduceToNat, Int.reduceNeg, Nat.zero_add, Nat.add_zero, Nat.sub_self, Nat.sub_zero, Nat.zero_mul, Nat.mul_one, Nat.zero_le, if_true, if_false, reduceIte, stays, inL, same1, qn, ldN, convN, lenN, List.mem_cons, List.not_mem_nil, Option.map_some, Option.map_none, cond_true, cond_false, Sx.imp_true, Sx.imp_false, implies_true, Int.reduceEq, Int.reduceNe, Int.reduceLE, Int.reduceLT, decide_true, decide_false, List.zipIdx_cons, List.zipIdx_nil, or_false, false_or, forall_eq_or_imp, forall_eq, ne_eq, reduceCtorEq, not_false_eq_true, Bool.false_eq_true, Bool.true_eq_false, Bool.not_true, Bool.not_false, notInt, numB, tabB, Array.reduceGetElem?, upG, up, nth, lay, rcB, rnm, rnmL, wrB, pcB, hsB, pl42, res38, res40, res42, hF']
    try refine ⟨by (try and_intros) <;> omega, ?_⟩
    try refine ⟨by (try and_intros) <;> omega, ?_⟩
    refine c23' (1 + 32 + 0) (1 + 32 + 0) (cat (1 + 32) (cat 1 (kF 0) D) (fun _ => 0)) _ ?_ (by omega) (by omega) true rfl (by simp) F hF _ ?_
    · intro i hi
      by_cases h1 : i < 1
      · obtain rfl : i = 0 := by omega
        simp [cat, kF, nat, Sx.look]
      · by_cases h2 : i < 1 + 32
        · have h3 : i < 33 := h2
          simp [cat, h1, h3]
        · have h3 : ¬ i < 33 := h2
          first | (exfalso; omega) | simp [cat, h1, h3]
    simp -implicitDefEqProofs (maxSteps := 1000000) (disch := omega) only [↓vcB, ↓gd, ↓opP, ↓qv, ↓ef, ↓bslS, ↓stS, ↓mkS, ↓mupS, ↓appS, ↓s2bS, ↓resS, evB, Sx.look, slot, ↓lkL, putS, putO, argsL, ↓reduceIte, ofV, of1, lookH, putH, List.length_cons, List.length_nil, List.length_append, List.replicate, List.append, List.cons_append, List.nil_append, List.append_assoc, List.map_cons, List.map_nil, convS, fldA, nthT, idxA, idxS, fldS, oslN, bnd, slS, unS, valI, lenS, lookS, takeC, psB, asRow, csB, Int.toNat_natCast, Int.le_refl, and_self, rdF, Ent.row, ldS, sz, szL, wrF, bldF, plT, bldS, srcS, nilS, nilEq, binS2, structS, eqL, eqF, binS, arrS, isI, tupS, stor, storL, Value.oneCell', minS, maxS, capS, true_and, and_true, Nat.reduceAdd, Nat.reduceSub, Nat.reduceMul, Nat.reduceLT, Nat.reduceLeDiff, Nat.reduceEqDiff, Nat.reduceBEq, Int.reduceToNat, Int.reduceNeg, Nat.zero_add, Nat.add_zero, Nat.sub_self, Nat.sub_zero, Nat.zero_mul, Nat.mul_one, Nat.zero_le, if_true, if_false, reduceIte, stays, inL, same1, qn, ldN, convN, lenN, List.mem_cons, List.not_mem_nil, Option.map_some, Option.map_none, cond_true, cond_false, Sx.imp_true, Sx.imp_false, implies_true, Int.reduceEq, Int.reduceNe, Int.reduceLE, Int.reduceLT, decide_true, decide_false, List.zipIdx_cons, List.zipIdx_nil, or_false, false_or, forall_eq_or_imp, forall_eq, ne_eq, reduceCtorEq, not_false_eq_true, Bool.false_eq_true, Bool.true_eq_false, Bool.not_true, Bool.not_false, notInt, numB, tabB, Array.reduceGetElem?, upG, up, nth, lay, rcB, rnm, rnmL, wrB, pcB, hsB, pl42, res38, res40, res42, hF']
    exact intoR_take [.row false 0 1 fun _ => .int .u8 0] rfl rfl (by simp [slot, lkL, fixed, rg, renH, chB, lookH, eqvL, eqv, eqvF, rnmL, rnm, liveN, lvB, goodH, gdB, okL, ok, sz, szL, storL, stor, renT, okT, pcB, hsB]) (by simp [ok, sz, hF']) hK

set_option maxHeartbeats 4000000 in
theorem c42l (D E : Nat → BitVec 8) (F : Nat → SV) (hF : (fun i => SV.int .u8 (nat (ndD D E i))) = F) (K : Tok → SV → List Chunk → Prop)
    (hK : K .mk (.fam 32 1 F) []) : callP Try.prog 42 [.fam 32 1 fun i => .int .u8 (nat (D i)), .fam 32 1 fun i => .int .u8 (nat (E i))] [] K := by
  have hF' : ∀ i, F i = .int .u8 (nat (ndD D E i)) := fun i => by rw [← hF]
  refine callP_of_code tabOk Try.func42 (by kernel_rfl) rfl (Nat.le_of_ble_eq_true rfl) (codeP_of_vc (pl := pl42) tabOk follows_mixed (by kernel_rfl) ?_)
  rw [Try.ntmps42]
  simp -implicitDefEqProofs (maxSteps := 1000000) (disch := omega) only [↓vcB, ↓gd, ↓opP, ↓qv, ↓ef, ↓bslS, ↓stS, ↓mkS, ↓mupS, ↓appS, ↓s2bS, ↓resS, evB, Sx.look, slot, ↓lkL, putS, putO, argsL, ↓reduceIte, ofV, of1, lookH, putH, List.length_cons, List.length_nil, List.length_append, List.replicate, List.append, List.cons_append, List.nil_append, List.append_assoc, List.map_cons, List.map_nil, convS, fldA, nthT, idxA, idxS, fldS, oslN, bnd, slS, unS, valI, lenS, lookS, takeC, psB, asRow, csB, Int.toNat_natCast, Int.le_refl, and_self, rdF, Ent.row, ldS, sz, szL, wrF, bldF, plT, bldS, srcS, nilS, nilEq, binS2, structS, eqL, eqF, binS, arrS, isI, tupS, stor, storL, Value.oneCell', minS, maxS, capS, true_and, and_true, Nat.reduceAdd, Nat.reduceSub, Nat.reduceMul, Nat.reduceLT, Nat.reduceLeDiff, Nat.reduceEqDiff, Nat.reduceBEq, Int.reduceToNat, Int.reduceNeg, Nat.zero_add, Nat.add_zero, Nat.sub_self, Nat.sub_zero, Nat.zero_mul, Nat.mul_one, Nat.zero_le, if_true, if_false, reduceIte, stays, inL, same1, qn, ldN, convN, lenN, List.mem_cons, List.not_mem_nil, Option.map_some, Option.map_none, cond_true, cond_false, Sx.imp_true, Sx.imp_false, implies_true, Int.reduceEq, Int.reduceNe, Int.reduceLE, Int.reduceLT, decide_true, decide_false, List.zipIdx_cons, List.zipIdx_nil, or_false, false_or, forall_eq_or_imp, forall_eq, ne_eq, reduceCtorEq, not_false_eq_true, Bool.false_eq_true, Bool.true_eq_false, Bool.not_true, Bool.not_false, notInt, numB, tabB, Array.reduceGetElem?, upG, up, nth, lay, rcB, rnm, rnmL, wrB, pcB, hsB, pl42, res38, res40, res42, hF']
  try refine ⟨by (try and_intros) <;> omega, ?_⟩
  try refine ⟨by (try and_intros) <;> omega, ?_⟩
  refine c23' (1 + 32 + 32) (1 + 32 + 32) (cat (1 + 32) (cat 1 (kF 2) D) E) _ ?_ (by omega) (by omega) true rfl (by simp) F hF _ ?_
  · intro i hi
    by_cases h1 : i < 1
    · obtain rfl : i = 0 := by omega
      simp [cat, kF, nat, Sx.look]
    · by_cases h2 : i < 1 + 32
      · have h3 : i < 33 := h2
        simp [cat, h1, h3]
      · have h3 : ¬ i < 33 := h2
        first | (exfalso; omega) | simp [cat, h1, h3]
  simp -implicitDefEqProofs (maxSteps := 1000000) (disch := omega) only [↓vcB, ↓gd, ↓opP, ↓qv, ↓ef, ↓bslS, ↓stS, ↓mkS, ↓mupS, ↓appS, ↓s2bS, ↓resS, evB, Sx.look, slot, ↓lkL, putS, putO, argsL, ↓reduceIte, ofV, of1, lookH, putH, List.length_cons, List.length_nil, List.length_append, List.replicate, List.append, List.cons_append, List.nil_append, List.append_assoc, List.map_cons, List.map_nil, convS, fldA, nthT, idxA, idxS, fldS, oslN, bnd, slS, unS, valI, lenS, lookS, takeC, psB, asRow, csB, Int.toNat_natCast, Int.le_refl, and_self, rdF, Ent.row, ldS, sz, szL, wrF, bldF, plT, bldS, srcS, nilS, nilEq, binS2, structS, eqL, eqF, binS, arrS, isI, tupS, stor, storL, Value.oneCell', minS, maxS, capS, true_and, and_true, Nat.reduceAdd, Nat.reduceSub, Nat.reduceMul, Nat.reduceLT, Nat.reduceLeDiff, Nat.reduceEqDiff, Nat.reduceBEq, Int.reduceToNat, Int.reduceNeg, Nat.zero_add, Nat.add_zero, Nat.sub_self, Nat.sub_zero, Nat.zero_mul, Nat.mul_one, Nat.zero_le, if_true, if_false, reduceIte, stays, inL, same1, qn, ldN, convN, lenN, List.mem_cons, List.not_mem_nil, Option.map_some, Option.map_none, cond_true, cond_false, Sx.imp_true, Sx.imp_false, implies_true, Int.reduceEq, Int.reduceNe, Int.reduceLE, Int.reduceLT, decide_true, decide_false, List.zipIdx_cons, List.zipIdx_nil, or_false, false_or, forall_eq_or_imp, forall_eq, ne_eq, reduceCtorEq, not_false_eq_true, Bool.false_eq_true, Bool.true_eq_false, Bool.not_true, Bool.not_false, notInt, numB, tabB, Array.reduceGetElem?, upG, up, nth, lay, rcB, rnm, rnmL, wrB, pcB, hsB, pl42, res38, res40, res42, hF']
  exact intoR_take [] rfl rfl (by simp [slot, lkL, fixed, rg, renH, chB, lookH, eqvL, eqv, eqvF, rnmL, rnm, liveN, lvB, goodH, gdB, okL, ok, sz, szL, storL, stor, renT, okT, pcB, hsB]) (by simp [ok, sz, hF']) hK

theorem c37 (D : Nat → BitVec 8) (G : Nat → SV) (hG : (fun i => SV.int .u8 (nat (D i))) = G) (q : Pc) {h : List Chunk} {nm : Nat} (hq : ∀ g, chEq g (lookH h nm) q.ch = True) (hnm : nm < h.length) (F : Nat → SV) (hF : (fun i => SV.int .u8 (nat (lkD D q i))) = F) (hS : q.len ≤ 70368744176000) (K : Tok → SV → List Chunk → Prop)
    (hK : K .mk (.fam 32 1 F) h) : callP Try.prog 37 [.fam 32 1 G, q.sv nm] h K := by
  subst hG
  refine callP_frame (argsL := [.fam 32 1 fun i => .int .u8 (nat (D i)), q.sv 0]) (KL := fun _ v h' => v = .fam 32 1 F ∧ h' = [q.ch]) [nm] (c37l D q F hF hS _ ⟨rfl, rfl⟩) ?_ ?_ ?_ ?_ ?_ ?_
  · simp
  · exact ⟨hnm, by rw [hq]; trivial, trivial⟩
  · simp [slot, lkL, fixed, rg, renH, chB, lookH, eqvL, eqv, eqvF, rnmL, rnm, liveN, lvB, goodH, gdB, okL, ok, sz, szL, storL, stor, renT, okT, has, upG, up, nth, roOk, keepsLive, wrB, lay, rcB, putH, pcB, hsB]
  · simp [slot, lkL, fixed, rg, renH, chB, lookH, eqvL, eqv, eqvF, rnmL, rnm, liveN, lvB, goodH, gdB, okL, ok, sz, szL, storL, stor, renT, okT, has, upG, up, nth, roOk, keepsLive, wrB, lay, rcB, putH, pcB, hsB]
  · simp [slot, lkL, fixed, rg, renH, chB, lookH, eqvL, eqv, eqvF, rnmL, rnm, liveN, lvB, goodH, gdB, okL, ok, sz, szL, storL, stor, renT, okT, has, upG, up, nth, roOk, keepsLive, wrB, lay, rcB, putH, pcB, hsB]
  · rintro v h' ⟨rfl, rfl⟩
    refine ⟨by simp [slot, lkL, fixed, rg, renH, chB, lookH, eqvL, eqv, eqvF, rnmL, rnm, liveN, lvB, goodH, gdB, okL, ok, sz, szL, storL, stor, renT, okT, has, upG, up, nth, roOk, keepsLive, wrB, lay, rcB, putH, pcB, hsB], by simp [slot, lkL, fixed, rg, renH, chB, lookH, eqvL, eqv, eqvF, rnmL, rnm, liveN, lvB, goodH, gdB, okL, ok, sz, szL, storL, stor, renT, okT, has, upG, up, nth, roOk, keepsLive, wrB, lay, rcB, putH, pcB, hsB], ?_⟩
    subst hF
    simpa [rnm, lay, Pc.wr_ch] using hK

theorem c38 (D : Nat → BitVec 8) (G : Nat → SV) (hG : (fun i => SV.int .u8 (nat (D i))) = G) (q : Pc) {h : List Chunk} {nm : Nat} (hq : ∀ g, chEq g (lookH h nm) q.ch = True) (hnm : nm < h.length) (F : Nat → SV) (hF : (fun i => SV.int .u8 (nat (lkD D q i))) = F) (hS : q.len ≤ 70368744176000) (K : Tok → SV → List Chunk → Prop)
    (hK : K .mk (.fam 32 1 F) h) : callP Try.prog 38 [.fam 32 1 G, q.sv nm] h K := by
  subst hG
  refine callP_frame (argsL := [.fam 32 1 fun i => .int .u8 (nat (D i)), q.sv 0]) (KL := fun _ v h' => v = .fam 32 1 F ∧ h' = [q.ch]) [nm] (c38l D q F hF hS _ ⟨rfl, rfl⟩) ?_ ?_ ?_ ?_ ?_ ?_
  · simp
  · exact ⟨hnm, by rw [hq]; trivial, trivial⟩
  · simp [slot, lkL, fixed, rg, renH, chB, lookH, eqvL, eqv, eqvF, rnmL, rnm, liveN, lvB, goodH, gdB, okL, ok, sz, szL, storL, stor, renT, okT, has, upG, up, nth, roOk, keepsLive, wrB, lay, rcB, putH, pcB, hsB]
  · simp [slot, lkL, fixed, rg, renH, chB, lookH, eqvL, eqv, eqvF, rnmL, rnm, liveN, lvB, goodH, gdB, okL, ok, sz, szL, storL, stor, renT, okT, has, upG, up, nth, roOk, keepsLive, wrB, lay, rcB, putH, pcB, hsB]
  · simp [slot, lkL, fixed, rg, renH, chB, lookH, eqvL, eqv, eqvF, rnmL, rnm, liveN, lvB, goodH, gdB, okL, ok, sz, szL, storL, stor, renT, okT, has, upG, up, nth, roOk, keepsLive, wrB, lay, rcB, putH, pcB, hsB]
  · rintro v h' ⟨rfl, rfl⟩
    refine ⟨by simp [slot, lkL, fixed, rg, renH, chB, lookH, eqvL, eqv, eqvF, rnmL, rnm, liveN, lvB, goodH, gdB, okL, ok, sz, szL, storL, stor, renT, okT, has, upG, up, nth, roOk, keepsLive, wrB, lay, rcB, putH, pcB, hsB], by simp [slot, lkL, fixed, rg, renH, chB, lookH, eqvL, eqv, eqvF, rnmL, rnm, liveN, lvB, goodH, gdB, okL, ok, sz, szL, storL, stor, renT, okT, has, upG, up, nth, roOk, keepsLive, wrB, lay, rcB, putH, pcB, hsB], ?_⟩
    subst hF
    simpa [rnm, lay, Pc.wr_ch] using hK

theorem c39  (q : Pc) {h : List Chunk} {nm : Nat} (hq : ∀ g, chEq g (lookH h nm) q.ch = True) (hnm : nm < h.length) (F : Nat → SV) (hF : (fun i => SV.int .u8 (nat (lfD q i))) = F) (hS : q.len ≤ 70368744176000) (K : Tok → SV → List Chunk → Prop)
    (hK : K .mk (.fam 32 1 F) h) : callP Try.prog 39 [q.sv nm] h K := by
  refine callP_frame (argsL := [q.sv 0]) (KL := fun _ v h' => v = .fam 32 1 F ∧ h' = [q.ch]) [nm] (c39l q F hF hS _ ⟨rfl, rfl⟩) ?_ ?_ ?_ ?_ ?_ ?_
  · simp
  · exact ⟨hnm, by rw [hq]; trivial, trivial⟩
  · simp [slot, lkL, fixed, rg, renH, chB, lookH, eqvL, eqv, eqvF, rnmL, rnm, liveN, lvB, goodH, gdB, okL, ok, sz, szL, storL, stor, renT, okT, has, upG, up, nth, roOk, keepsLive, wrB, lay, rcB, putH, pcB, hsB]
  · simp [slot, lkL, fixed, rg, renH, chB, lookH, eqvL, eqv, eqvF, rnmL, rnm, liveN, lvB, goodH, gdB, okL, ok, sz, szL, storL, stor, renT, okT, has, upG, up, nth, roOk, keepsLive, wrB, lay, rcB, putH, pcB, hsB]
  · simp [slot, lkL, fixed, rg, renH, chB, lookH, eqvL, eqv, eqvF, rnmL, rnm, liveN, lvB, goodH, gdB, okL, ok, sz, szL, storL, stor, renT, okT, has, upG, up, nth, roOk, keepsLive, wrB, lay, rcB, putH, pcB, hsB]
  · rintro v h' ⟨rfl, rfl⟩
    refine ⟨by simp [slot, lkL, fixed, rg, renH, chB, lookH, eqvL, eqv, eqvF, rnmL, rnm, liveN, lvB, goodH, gdB, okL, ok, sz, szL, storL, stor, renT, okT, has, upG, up, nth, roOk, keepsLive, wrB, lay, rcB, putH, pcB, hsB], by simp [slot, lkL, fixed, rg, renH, chB, lookH, eqvL, eqv, eqvF, rnmL, rnm, liveN, lvB, goodH, gdB, okL, ok, sz, szL, storL, stor, renT, okT, has, upG, up, nth, roOk, keepsLive, wrB, lay, rcB, putH, pcB, hsB], ?_⟩
    subst hF
    simpa [rnm, lay, Pc.wr_ch] using hK

theorem c40  (q : Pc) {h : List Chunk} {nm : Nat} (hq : ∀ g, chEq g (lookH h nm) q.ch = True) (hnm : nm < h.length) (F : Nat → SV) (hF : (fun i => SV.int .u8 (nat (lfD q i))) = F) (hS : q.len ≤ 70368744176000) (K : Tok → SV → List Chunk → Prop)
    (hK : K .mk (.fam 32 1 F) h) : callP Try.prog 40 [q.sv nm] h K := by
  refine callP_frame (argsL := [q.sv 0]) (KL := fun _ v h' => v = .fam 32 1 F ∧ h' = [q.ch]) [nm] (c40l q F hF hS _ ⟨rfl, rfl⟩) ?_ ?_ ?_ ?_ ?_ ?_
  · simp
  · exact ⟨hnm, by rw [hq]; trivial, trivial⟩
  · simp [slot, lkL, fixed, rg, renH, chB, lookH, eqvL, eqv, eqvF, rnmL, rnm, liveN, lvB, goodH, gdB, okL, ok, sz, szL, storL, stor, renT, okT, has, upG, up, nth, roOk, keepsLive, wrB, lay, rcB, putH, pcB, hsB]
  · simp [slot, lkL, fixed, rg, renH, chB, lookH, eqvL, eqv, eqvF, rnmL, rnm, liveN, lvB, goodH, gdB, okL, ok, sz, szL, storL, stor, renT, okT, has, upG, up, nth, roOk, keepsLive, wrB, lay, rcB, putH, pcB, hsB]
  · simp [slot, lkL, fixed, rg, renH, chB, lookH, eqvL, eqv, eqvF, rnmL, rnm, liveN, lvB, goodH, gdB, okL, ok, sz, szL, storL, stor, renT, okT, has, upG, up, nth, roOk, keepsLive, wrB, lay, rcB, putH, pcB, hsB]
  · rintro v h' ⟨rfl, rfl⟩
    refine ⟨by simp [slot, lkL, fixed, rg, renH, chB, lookH, eqvL, eqv, eqvF, rnmL, rnm, liveN, lvB, goodH, gdB, okL, ok, sz, szL, storL, stor, renT, okT, has, upG, up, nth, roOk, keepsLive, wrB, lay, rcB, putH, pcB, hsB], by simp [slot, lkL, fixed, rg, renH, chB, lookH, eqvL, eqv, eqvF, rnmL, rnm, liveN, lvB, goodH, gdB, okL, ok, sz, szL, storL, stor, renT, okT, has, upG, up, nth, roOk, keepsLive, wrB, lay, rcB, putH, pcB, hsB], ?_⟩
    subst hF
    simpa [rnm, lay, Pc.wr_ch] using hK

theorem c41 (D E : Nat → BitVec 8) (G G' : Nat → SV) (hG : (fun i => SV.int .u8 (nat (D i))) = G) (hG' : (fun i => SV.int .u8 (nat (E i))) = G') {h : List Chunk} (F : Nat → SV) (hF : (fun i => SV.int .u8 (nat (ndD D E i))) = F) (K : Tok → SV → List Chunk → Prop)
    (hK : K .mk (.fam 32 1 F) h) : callP Try.prog 41 [.fam 32 1 G, .fam 32 1 G'] h K := by
  subst hG hG'
  refine callP_frame (argsL := [.fam 32 1 fun i => .int .u8 (nat (D i)), .fam 32 1 fun i => .int .u8 (nat (E i))]) (KL := fun _ v h' => v = .fam 32 1 F ∧ h' = []) [] (c41l D E F hF (by omega) _ ⟨rfl, rfl⟩) ?_ ?_ ?_ ?_ ?_ ?_
  · simp
  · trivial
  · trivial
  · simp [slot, lkL, fixed, rg, renH, chB, lookH, eqvL, eqv, eqvF, rnmL, rnm, liveN, lvB, goodH, gdB, okL, ok, sz, szL, storL, stor, renT, okT, has, upG, up, nth, roOk, keepsLive, wrB, lay, rcB, putH, pcB, hsB]
  · simp [slot, lkL, fixed, rg, renH, chB, lookH, eqvL, eqv, eqvF, rnmL, rnm, liveN, lvB, goodH, gdB, okL, ok, sz, szL, storL, stor, renT, okT, has, upG, up, nth, roOk, keepsLive, wrB, lay, rcB, putH, pcB, hsB]
  · rintro v h' ⟨rfl, rfl⟩
    refine ⟨by simp [slot, lkL, fixed, rg, renH, chB, lookH, eqvL, eqv, eqvF, rnmL, rnm, liveN, lvB, goodH, gdB, okL, ok, sz, szL, storL, stor, renT, okT, has, upG, up, nth, roOk, keepsLive, wrB, lay, rcB, putH, pcB, hsB], by simp [slot, lkL, fixed, rg, renH, chB, lookH, eqvL, eqv, eqvF, rnmL, rnm, liveN, lvB, goodH, gdB, okL, ok, sz, szL, storL, stor, renT, okT, has, upG, up, nth, roOk, keepsLive, wrB, lay, rcB, putH, pcB, hsB], ?_⟩
    subst hF
    simpa [rnm, lay] using hK

theorem c42 (D E : Nat → BitVec 8) (G G' : Nat → SV) (hG : (fun i => SV.int .u8 (nat (D i))) = G) (hG' : (fun i => SV.int .u8 (nat (E i))) = G') {h : List Chunk} (F : Nat → SV) (hF : (fun i => SV.int .u8 (nat (ndD D E i))) = F) (K : Tok → SV → List Chunk → Prop)
    (hK : K .mk (.fam 32 1 F) h) : callP Try.prog 42 [.fam 32 1 G, .fam 32 1 G'] h K := by
  subst hG hG'
  refine callP_frame (argsL := [.fam 32 1 fun i => .int .u8 (nat (D i)), .fam 32 1 fun i => .int .u8 (nat (E i))]) (KL := fun _ v h' => v = .fam 32 1 F ∧ h' = []) [] (c42l D E F hF _ ⟨rfl, rfl⟩) ?_ ?_ ?_ ?_ ?_ ?_
  · simp
  · trivial
  · trivial
  · simp [slot, lkL, fixed, rg, renH, chB, lookH, eqvL, eqv, eqvF, rnmL, rnm, liveN, lvB, goodH, gdB, okL, ok, sz, szL, storL, stor, renT, okT, has, upG, up, nth, roOk, keepsLive, wrB, lay, rcB, putH, pcB, hsB]
  · simp [slot, lkL, fixed, rg, renH, chB, lookH, eqvL, eqv, eqvF, rnmL, rnm, liveN, lvB, goodH, gdB, okL, ok, sz, szL, storL, stor, renT, okT, has, upG, up, nth, roOk, keepsLive, wrB, lay, rcB, putH, pcB, hsB]
  · rintro v h' ⟨rfl, rfl⟩
    refine ⟨by simp [slot, lkL, fixed, rg, renH, chB, lookH, eqvL, eqv, eqvF, rnmL, rnm, liveN, lvB, goodH, gdB, okL, ok, sz, szL, storL, stor, renT, okT, has, upG, up, nth, roOk, keepsLive, wrB, lay, rcB, putH, pcB, hsB], by simp [slot, lkL, fixed, rg, renH, chB, lookH, eqvL, eqv, eqvF, rnmL, rnm, liveN, lvB, goodH, gdB, okL, ok, sz, szL, storL, stor, renT, okT, has, upG, up, nth, roOk, keepsLive, wrB, lay, rcB, putH, pcB, hsB], ?_⟩
    subst hF
    simpa [rnm, lay] using hK
end Go.Proofs.Ytbjelfgclhmedaa
