/- Contracts of functions that the laws reach, by the symbolic executor of the texts Sxa to Syg. No condition. -/
import Derived.Test.YtloinbebkhcndaaV6
set_option linter.all false
set_option maxRecDepth 40000
namespace Go.Proofs.Ytloinbebkhcndaa
open Go Go.Sx

theorem getD_rm (A : Nat → Int) {n i : Nat} (h : i < n) : ((List.range n).map A).getD i 0 = A i := by
  rw [List.getD_eq_getElem?_getD, List.getElem?_map, List.getElem?_range h]
  rfl
theorem getD_take (L : List Int) {k i : Nat} (h : i < k) : (L.take k).getD i 0 = L.getD i 0 := by
  rw [List.getD_eq_getElem?_getD, List.getElem?_take_of_lt h, ← List.getD_eq_getElem?_getD]
theorem getD_drop (L : List Int) {k i : Nat} : (L.drop k).getD i 0 = L.getD (k + i) 0 := by
  rw [List.getD_eq_getElem?_getD, List.getElem?_drop, ← List.getD_eq_getElem?_getD]
/-- SameInts, of parts of rows. -/
theorem c27gk (n m q p d1 e1 d2 e2 : Nat) (hn : e1 + n ≤ q) (hm : e2 + m ≤ p) (hq : q ≤ 9223372036854775807) (hp : p ≤ 9223372036854775807) (A B : Nat → Int) (K : Tok → SV → List Chunk → Prop) (hK : K .mk (.bool (sameN n m (fun i => A (e1 + i)) fun i => B (e2 + i))) [.row false q 1 fun i => .int .i64 (A i), .row false p 1 fun i => .int .i64 (B i)]) :
    callP Try.prog 27 [.osl 0 d1 e1 1 n, .osl 1 d2 e2 1 m] [.row false q 1 fun i => .int .i64 (A i), .row false p 1 fun i => .int .i64 (B i)] K := by
  by_cases hnm : n = m
  · subst hnm
    have g0 : ((n : Int) != n) = false := bne_self_eq_false _
    refine callP_of_code tabOk Try.func27 (by kernel_rfl) rfl (Nat.le_of_ble_eq_true rfl) (codeP_of_vc (pl := pl27) tabOk follows_mixed (by kernel_rfl) ?_)
    rw [Try.ntmps27]
    simp -implicitDefEqProofs (maxSteps := 1000000) (disch := omega) only [↓vcB, ↓gd, ↓opP, ↓qv, ↓ef, ↓bslS, ↓stS, ↓mkS, ↓delS, ↓mupS, ↓appS, ↓s2bS, ↓resS, evB, Sx.look, slot, ↓lkL, putS, putO, argsL, ↓reduceIte, ofV, of1, lookH, putH, List.length_cons, List.length_nil, List.length_append, List.replicate, List.append, List.cons_append, List.nil_append, List.append_assoc, List.map_cons, List.map_nil, convS, fldA, nthT, idxA, idxS, fldS, oslN, bnd, slS, unS, valI, lenS, lookS, takeC, psB, asRow, csB, Int.toNat_natCast, Int.le_refl, and_self, rdF, Ent.row, ldS, sz, szL, wrF, bldF, plT, bldS, srcS, nilS, nilEq, binH, binS2, structS, eqL, eqF, binS, arrS, isI, tupS, stor, storL, Value.oneCell', minS, maxS, capS, true_and, and_true, Nat.reduceAdd, Nat.reduceSub, Nat.reduceMul, Nat.reduceLT, Nat.reduceLeDiff, Nat.reduceEqDiff, Nat.reduceBEq, Int.reduceToNat, Int.reduceNeg, Nat.zero_add, Nat.add_zero, Nat.sub_self, Nat.sub_zero, Nat.zero_mul, Nat.mul_one, Nat.zero_le, if_true, if_false, reduceIte, stays, inL, same1, qn, ldN, convN, lenN, List.mem_cons, List.not_mem_nil, Option.map_some, Option.map_none, cond_true, cond_false, Sx.imp_true, Sx.imp_false, implies_true, Int.reduceEq, Int.reduceNe, Int.reduceLE, Int.reduceLT, decide_true, decide_false, List.zipIdx_cons, List.zipIdx_nil, or_false, false_or, forall_eq_or_imp, forall_eq, ne_eq, reduceCtorEq, not_false_eq_true, Bool.false_eq_true, Bool.true_eq_false, Bool.not_true, Bool.not_false, notInt, numB, tabB, Array.reduceGetElem?, upG, up, nth, lay, rcB, rnm, rnmL, wrB, pcB, res27, g0, res27]
    refine codeP_loop (pl := pl27) tabOk follows_mixed (by kernel_rfl) (fun x st => ∃ (k : Nat) (j : Nat → Value), k + x = n ∧ (∀ i, i < k → A (e1 + i) = B (e2 + i)) ∧ st = ⟨⟨26, [(0, .osl 0 d1 e1 1 n), (1, .osl 1 d2 e2 1 n), (11, .osl 0 d1 e1 1 n), (12, .int .i64 (n : Nat)), (13, .int .i64 (k : Nat))], j⟩, [.row false q 1 fun i => .int .i64 (A i), .row false p 1 fun i => .int .i64 (B i)], []⟩) ?_ ?_
    · refine into_mk [some 0, some 1] [(0, .osl 0 d1 e1 1 n), (1, .osl 1 d2 e2 1 n), (11, .osl 0 d1 e1 1 n), (12, .int .i64 (n : Nat)), (13, .int .i64 (0 : Nat))] [.row false q 1 fun i => .int .i64 (A i), .row false p 1 fun i => .int .i64 (B i)] ?_ ?_ ?_ ?_ ?_ ?_ ?_ ?_
      iterate 7 (· simp [slot, lkL, fixed, rg, renH, chEq, lookH, eqvL, eqv, eqvF, rnmL, rnm, liveN, Chunk.live, goodH, Chunk.good, okL, ok, sz, szL, storL, stor, renT, okT])
      exact fun j => ⟨n, 0, j, by omega, fun i hi => absurd hi (by omega), rfl⟩
    · rintro x st ⟨k, j, hk, hall, rfl⟩
      by_cases hlt : k < n
      · have g1 : decide ((k : Int) < n) = true := decide_eq_true (by omega)
        have a1 : IntKind.i64.wrap ((k : Int) + 1) = ((k + 1 : Nat) : Int) := by rw [wrap64 (by omega) (by omega)]; omega
        by_cases he : A (e1 + k) = B (e2 + k)
        · have g2 : (A (e1 + k) != B (e2 + k)) = false := by rw [he]; exact bne_self_eq_false _
          simp -implicitDefEqProofs (maxSteps := 1000000) (disch := omega) only [↓vcB, ↓gd, ↓opP, ↓qv, ↓ef, ↓bslS, ↓stS, ↓mkS, ↓delS, ↓mupS, ↓appS, ↓s2bS, ↓resS, evB, Sx.look, slot, ↓lkL, putS, putO, argsL, ↓reduceIte, ofV, of1, lookH, putH, List.length_cons, List.length_nil, List.length_append, List.replicate, List.append, List.cons_append, List.nil_append, List.append_assoc, List.map_cons, List.map_nil, convS, fldA, nthT, idxA, idxS, fldS, oslN, bnd, slS, unS, valI, lenS, lookS, takeC, psB, asRow, csB, Int.toNat_natCast, Int.le_refl, and_self, rdF, Ent.row, ldS, sz, szL, wrF, bldF, plT, bldS, srcS, nilS, nilEq, binH, binS2, structS, eqL, eqF, binS, arrS, isI, tupS, stor, storL, Value.oneCell', minS, maxS, capS, true_and, and_true, Nat.reduceAdd, Nat.reduceSub, Nat.reduceMul, Nat.reduceLT, Nat.reduceLeDiff, Nat.reduceEqDiff, Nat.reduceBEq, Int.reduceToNat, Int.reduceNeg, Nat.zero_add, Nat.add_zero, Nat.sub_self, Nat.sub_zero, Nat.zero_mul, Nat.mul_one, Nat.zero_le, if_true, if_false, reduceIte, stays, inL, same1, qn, ldN, convN, lenN, List.mem_cons, List.not_mem_nil, Option.map_some, Option.map_none, cond_true, cond_false, Sx.imp_true, Sx.imp_false, implies_true, Int.reduceEq, Int.reduceNe, Int.reduceLE, Int.reduceLT, decide_true, decide_false, List.zipIdx_cons, List.zipIdx_nil, or_false, false_or, forall_eq_or_imp, forall_eq, ne_eq, reduceCtorEq, not_false_eq_true, Bool.false_eq_true, Bool.true_eq_false, Bool.not_true, Bool.not_false, notInt, numB, tabB, Array.reduceGetElem?, upG, up, nth, lay, rcB, rnm, rnmL, wrB, pcB, g1, g2, a1, pl27]
          repeat (refine ⟨⟨by omega, by omega, by omega⟩, by omega, ?_⟩)
          refine into_mk [some 0, some 1] [(0, .osl 0 d1 e1 1 n), (1, .osl 1 d2 e2 1 n), (11, .osl 0 d1 e1 1 n), (12, .int .i64 (n : Nat)), (13, .int .i64 (k + 1 : Nat))] [.row false q 1 fun i => .int .i64 (A i), .row false p 1 fun i => .int .i64 (B i)] ?_ ?_ ?_ ?_ ?_ ?_ ?_ ?_
          iterate 7 (· simp [slot, lkL, fixed, rg, renH, chEq, lookH, eqvL, eqv, eqvF, rnmL, rnm, liveN, Chunk.live, goodH, Chunk.good, okL, ok, sz, szL, storL, stor, renT, okT])
          exact fun j => ⟨x - 1, by omega, k + 1, j, by omega, fun i hi => (if h : i = k then (by rw [h]; exact he) else hall i (by omega)), rfl⟩
        · have g2 : (A (e1 + k) != B (e2 + k)) = true := bne_iff_ne.2 he
          have hs : sameN n n (fun i => A (e1 + i)) (fun i => B (e2 + i)) = false := decide_eq_false fun h => he (h.2 k hlt)
          rw [hs] at hK
          simp -implicitDefEqProofs (maxSteps := 1000000) (disch := omega) only [↓vcB, ↓gd, ↓opP, ↓qv, ↓ef, ↓bslS, ↓stS, ↓mkS, ↓delS, ↓mupS, ↓appS, ↓s2bS, ↓resS, evB, Sx.look, slot, ↓lkL, putS, putO, argsL, ↓reduceIte, ofV, of1, lookH, putH, List.length_cons, List.length_nil, List.length_append, List.replicate, List.append, List.cons_append, List.nil_append, List.append_assoc, List.map_cons, List.map_nil, convS, fldA, nthT, idxA, idxS, fldS, oslN, bnd, slS, unS, valI, lenS, lookS, takeC, psB, asRow, csB, Int.toNat_natCast, Int.le_refl, and_self, rdF, Ent.row, ldS, sz, szL, wrF, bldF, plT, bldS, srcS, nilS, nilEq, binH, binS2, structS, eqL, eqF, binS, arrS, isI, tupS, stor, storL, Value.oneCell', minS, maxS, capS, true_and, and_true, Nat.reduceAdd, Nat.reduceSub, Nat.reduceMul, Nat.reduceLT, Nat.reduceLeDiff, Nat.reduceEqDiff, Nat.reduceBEq, Int.reduceToNat, Int.reduceNeg, Nat.zero_add, Nat.add_zero, Nat.sub_self, Nat.sub_zero, Nat.zero_mul, Nat.mul_one, Nat.zero_le, if_true, if_false, reduceIte, stays, inL, same1, qn, ldN, convN, lenN, List.mem_cons, List.not_mem_nil, Option.map_some, Option.map_none, cond_true, cond_false, Sx.imp_true, Sx.imp_false, implies_true, Int.reduceEq, Int.reduceNe, Int.reduceLE, Int.reduceLT, decide_true, decide_false, List.zipIdx_cons, List.zipIdx_nil, or_false, false_or, forall_eq_or_imp, forall_eq, ne_eq, reduceCtorEq, not_false_eq_true, Bool.false_eq_true, Bool.true_eq_false, Bool.not_true, Bool.not_false, notInt, numB, tabB, Array.reduceGetElem?, upG, up, nth, lay, rcB, rnm, rnmL, wrB, pcB, g1, g2, a1, res27, pl27]
          repeat (refine ⟨⟨by omega, by omega, by omega⟩, by omega, ?_⟩)
          exact intoR_refl (by simp) hK
      · have hkn : k = n := by omega
        subst k
        have g1 : decide ((n : Int) < n) = false := decide_eq_false (by omega)
        have hs : sameN n n (fun i => A (e1 + i)) (fun i => B (e2 + i)) = true := decide_eq_true ⟨rfl, hall⟩
        rw [hs] at hK
        simp -implicitDefEqProofs (maxSteps := 1000000) (disch := omega) only [↓vcB, ↓gd, ↓opP, ↓qv, ↓ef, ↓bslS, ↓stS, ↓mkS, ↓delS, ↓mupS, ↓appS, ↓s2bS, ↓resS, evB, Sx.look, slot, ↓lkL, putS, putO, argsL, ↓reduceIte, ofV, of1, lookH, putH, List.length_cons, List.length_nil, List.length_append, List.replicate, List.append, List.cons_append, List.nil_append, List.append_assoc, List.map_cons, List.map_nil, convS, fldA, nthT, idxA, idxS, fldS, oslN, bnd, slS, unS, valI, lenS, lookS, takeC, psB, asRow, csB, Int.toNat_natCast, Int.le_refl, and_self, rdF, Ent.row, ldS, sz, szL, wrF, bldF, plT, bldS, srcS, nilS, nilEq, binH, binS2, structS, eqL, eqF, binS, arrS, isI, tupS, stor, storL, Value.oneCell', minS, maxS, capS, true_and, and_true, Nat.reduceAdd, Nat.reduceSub, Nat.reduceMul, Nat.reduceLT, Nat.reduceLeDiff, Nat.reduceEqDiff, Nat.reduceBEq, Int.reduceToNat, Int.reduceNeg, Nat.zero_add, Nat.add_zero, Nat.sub_self, Nat.sub_zero, Nat.zero_mul, Nat.mul_one, Nat.zero_le, if_true, if_false, reduceIte, stays, inL, same1, qn, ldN, convN, lenN, List.mem_cons, List.not_mem_nil, Option.map_some, Option.map_none, cond_true, cond_false, Sx.imp_true, Sx.imp_false, implies_true, Int.reduceEq, Int.reduceNe, Int.reduceLE, Int.reduceLT, decide_true, decide_false, List.zipIdx_cons, List.zipIdx_nil, or_false, false_or, forall_eq_or_imp, forall_eq, ne_eq, reduceCtorEq, not_false_eq_true, Bool.false_eq_true, Bool.true_eq_false, Bool.not_true, Bool.not_false, notInt, numB, tabB, Array.reduceGetElem?, upG, up, nth, lay, rcB, rnm, rnmL, wrB, pcB, g1, res27]
        exact intoR_refl (by simp) hK
  · have g0 : ((n : Int) != m) = true := bne_iff_ne.2 (by omega)
    have hs : sameN n m (fun i => A (e1 + i)) (fun i => B (e2 + i)) = false := decide_eq_false fun h => hnm h.1
    rw [hs] at hK
    refine callP_of_code tabOk Try.func27 (by kernel_rfl) rfl (Nat.le_of_ble_eq_true rfl) (codeP_of_vc (pl := pl27) tabOk follows_mixed (by kernel_rfl) ?_)
    rw [Try.ntmps27]
    simp -implicitDefEqProofs (maxSteps := 1000000) (disch := omega) only [↓vcB, ↓gd, ↓opP, ↓qv, ↓ef, ↓bslS, ↓stS, ↓mkS, ↓delS, ↓mupS, ↓appS, ↓s2bS, ↓resS, evB, Sx.look, slot, ↓lkL, putS, putO, argsL, ↓reduceIte, ofV, of1, lookH, putH, List.length_cons, List.length_nil, List.length_append, List.replicate, List.append, List.cons_append, List.nil_append, List.append_assoc, List.map_cons, List.map_nil, convS, fldA, nthT, idxA, idxS, fldS, oslN, bnd, slS, unS, valI, lenS, lookS, takeC, psB, asRow, csB, Int.toNat_natCast, Int.le_refl, and_self, rdF, Ent.row, ldS, sz, szL, wrF, bldF, plT, bldS, srcS, nilS, nilEq, binH, binS2, structS, eqL, eqF, binS, arrS, isI, tupS, stor, storL, Value.oneCell', minS, maxS, capS, true_and, and_true, Nat.reduceAdd, Nat.reduceSub, Nat.reduceMul, Nat.reduceLT, Nat.reduceLeDiff, Nat.reduceEqDiff, Nat.reduceBEq, Int.reduceToNat, Int.reduceNeg, Nat.zero_add, Nat.add_zero, Nat.sub_self, Nat.sub_zero, Nat.zero_mul, Nat.mul_one, Nat.zero_le, if_true, if_false, reduceIte, stays, inL, same1, qn, ldN, convN, lenN, List.mem_cons, List.not_mem_nil, Option.map_some, Option.map_none, cond_true, cond_false, Sx.imp_true, Sx.imp_false, implies_true, Int.reduceEq, Int.reduceNe, Int.reduceLE, Int.reduceLT, decide_true, decide_false, List.zipIdx_cons, List.zipIdx_nil, or_false, false_or, forall_eq_or_imp, forall_eq, ne_eq, reduceCtorEq, not_false_eq_true, Bool.false_eq_true, Bool.true_eq_false, Bool.not_true, Bool.not_false, notInt, numB, tabB, Array.reduceGetElem?, upG, up, nth, lay, rcB, rnm, rnmL, wrB, pcB, res27, g0, res27]
    exact intoR_refl (by simp) hK

theorem c27g (h : List Chunk) (k1 k2 n m q p d1 e1 d2 e2 : Nat) (w1 w2 : Bool) (hne : k1 ≠ k2) (hn : e1 + n ≤ q) (hm : e2 + m ≤ p) (hq : q ≤ 9223372036854775807) (hp : p ≤ 9223372036854775807) (A B : Nat → Int) (h1 : lookH h k1 = .row w1 q 1 fun i => .int .i64 (A i)) (h2 : lookH h k2 = .row w2 p 1 fun i => .int .i64 (B i)) (l1 : k1 < h.length) (l2 : k2 < h.length)
    (b : Bool) (hb : sameN n m (fun i => A (e1 + i)) (fun i => B (e2 + i)) = b) (K : Tok → SV → List Chunk → Prop) (hK : K .mk (.bool b) h) : callP Try.prog 27 [.osl k1 d1 e1 1 n, .osl k2 d2 e2 1 m] h K := by
  refine callP_frame (argsL := [.osl 0 d1 e1 1 n, .osl 1 d2 e2 1 m]) (KL := fun _ v h' => v = .bool (sameN n m (fun i => A (e1 + i)) fun i => B (e2 + i)) ∧ h' = [.row false q 1 fun i => .int .i64 (A i), .row false p 1 fun i => .int .i64 (B i)]) [k1, k2] (c27gk n m q p d1 e1 d2 e2 hn hm hq hp A B _ ⟨rfl, rfl⟩) ?_ ?_ ?_ ?_ ?_ ?_
  · simp [hne]
  · exact ⟨l1, by rw [h1]; simp [slot, lkL, fixed, rg, renH, chEq, lookH, eqvL, eqv, eqvF, rnmL, rnm, liveN, Chunk.live, goodH, Chunk.good, okL, ok, sz, szL, storL, stor, renT, okT], l2, by rw [h2]; simp [slot, lkL, fixed, rg, renH, chEq, lookH, eqvL, eqv, eqvF, rnmL, rnm, liveN, Chunk.live, goodH, Chunk.good, okL, ok, sz, szL, storL, stor, renT, okT], trivial⟩
  · simp [slot, lkL, fixed, rg, renH, chEq, lookH, eqvL, eqv, eqvF, rnmL, rnm, liveN, Chunk.live, goodH, Chunk.good, okL, ok, sz, szL, storL, stor, renT, okT]
  · simp [slot, lkL, fixed, rg, renH, chEq, lookH, eqvL, eqv, eqvF, rnmL, rnm, liveN, Chunk.live, goodH, Chunk.good, okL, ok, sz, szL, storL, stor, renT, okT]
  · simp [rnmL, rnm, upG, up, nth]
  · rintro v h' ⟨rfl, rfl⟩
    refine ⟨?_, ?_, ?_⟩
    · simp [roOk]
    · simp [keepsLive, Chunk.live]
    · have e2 : lay (upG [k1, k2] h.length) [k1, k2] [.row false q 1 fun i => .int .i64 (A i), .row false p 1 fun i => .int .i64 (B i)] [.row false q 1 fun i => .int .i64 (A i), .row false p 1 fun i => .int .i64 (B i)] h = h := by simp [lay, Chunk.wr]
      rw [e2, hb]
      exact hK
end Go.Proofs.Ytloinbebkhcndaa
