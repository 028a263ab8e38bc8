/- Contracts of functions that the laws reach, by the symbolic executor of the texts Sxa to Sxt. No condition. -/
import Derived.Test.YtbjelfgclhmedaaU7
set_option linter.all false
set_option maxRecDepth 40000
namespace Go.Proofs.Ytbjelfgclhmedaa
open Go Go.Sx

def pl30 : Nat → Plan
  | 7 => (.q 0 (.q 1 (.q 2 (.q 3 (.q 5 (.q 6 (.q 7 (.q 8 (.q 9 (.e1 4 [] (.e1 10 [4] (.q 11 (.q 12 .nil)))))))))))))
  | _ => .nil


def bv (s : ByteArray) (i : Nat) : BitVec 8 := BitVec.ofInt 8 (byteAt s i)
theorem bv_eq (s : ByteArray) (i : Nat) : byteAt s i = nat (bv s i) := by
  have h : 0 ≤ byteAt s i ∧ byteAt s i < 256 := by
    unfold byteAt
    exact ⟨by omega, by have := (s.data.toList.getD i 0).toNat_lt; omega⟩
  simp only [bv, nat, BitVec.toNat_ofInt]
  omega
def okD (s : ByteArray) (i : Nat) : Prop := nib (bv s (2 * i)) ≤ 15 ∧ nib (bv s (2 * i + 1)) ≤ 15
instance (s : ByteArray) (i : Nat) : Decidable (okD s i) := by unfold okD; infer_instance
def pV (s : ByteArray) (i : Nat) : BitVec 8 := nib (bv s (2 * i)) <<< 4 ||| nib (bv s (2 * i + 1))
def pOk (s : ByteArray) : Prop := s.size = 64 ∧ ∀ i, i < 32 → okD s i
instance (s : ByteArray) : Decidable (pOk s) := by unfold pOk; infer_instance
def pD (s : ByteArray) (i : Nat) : BitVec 8 := if pOk s then pV s i else 0
theorem res30 : Try.f30.results.toList = [.cell 2 29, .tmp 3] := rfl
set_option maxHeartbeats 1000000 in
theorem c30l (s : ByteArray) (K : Tok → SV → List Chunk → Prop) (hK : K .mk (.tup [.fam 32 1 fun i => .int .u8 (nat (pD s i)), .bool (decide (pOk s))]) []) : callP Try.prog 30 [.str s] [] K := by
  refine callP_of_code tabOk Try.func30 (by kernel_rfl) rfl (Nat.le_of_ble_eq_true rfl) (codeP_of_vc (pl := pl30) tabOk follows_mixed (by kernel_rfl) ?_)
  rw [Try.ntmps30]
  simp -implicitDefEqProofs (maxSteps := 1000000) (disch := omega) only [↓vcB, ↓gd, ↓opP, ↓qv, ↓ef, ↓bslS, ↓stS, ↓mkS, ↓mupS, ↓appS, ↓s2bS, ↓resS, evB, Sx.look, slot, ↓lkL, putS, putO, argsL, ↓reduceIte, ofV, of1, lookH, putH, List.length_cons, List.length_nil, List.length_append, List.replicate, List.append, List.cons_append, List.nil_append, List.append_assoc, List.map_cons, List.map_nil, convS, fldA, nthT, idxA, idxS, fldS, oslN, bnd, slS, unS, valI, lenS, lookS, takeC, parts, asRow, single, rdF, Ent.row, ldS, sz, szL, wrF, bldF, plT, bldS, srcS, nilS, nilEq, binS2, structS, eqL, eqF, binS, arrS, isI, tupS, stor, storL, Value.oneCell', minS, maxS, capS, true_and, and_true, Nat.reduceAdd, Nat.reduceSub, Nat.reduceMul, Nat.reduceLT, Nat.reduceLeDiff, Nat.reduceEqDiff, Nat.reduceBEq, Int.reduceToNat, Int.reduceNeg, Nat.zero_add, Nat.add_zero, Nat.sub_self, Nat.sub_zero, Nat.zero_mul, Nat.mul_one, Nat.zero_le, if_true, if_false, reduceIte, stays, inL, same1, qn, ldN, convN, lenN, List.mem_cons, List.not_mem_nil, Option.map_some, Option.map_none, cond_true, cond_false, Sx.imp_true, Sx.imp_false, implies_true, Int.reduceEq, Int.reduceNe, Int.reduceLE, Int.reduceLT, decide_true, decide_false, List.zipIdx_cons, List.zipIdx_nil, or_false, false_or, forall_eq_or_imp, forall_eq, ne_eq, reduceCtorEq, not_false_eq_true, Bool.false_eq_true, Bool.true_eq_false, Bool.not_true, Bool.not_false, notInt, numB, tabB, Array.reduceGetElem?, res30]
  refine ⟨Sx.imp_intro fun hc' => ?_, Sx.imp_intro fun hc' => ?_⟩
  · have hz : ¬ pOk s := fun h => by
      have := h.1
      simp only [bne_iff_ne, ne_eq] at hc'
      omega
    have e : (SV.tup [SV.fam 32 1 fun i => SV.int IntKind.u8 (nat (pD s i)), SV.bool (decide (pOk s))]) = SV.tup [SV.fam 32 1 fun x => SV.int IntKind.u8 0, SV.bool false] := by
      simp [pD, hz, nat]
    rw [e] at hK
    exact intoR_take [] rfl rfl trivial (by simp [slot, lkL, fixed, rg, renH, chEq, lookH, eqvL, eqv, eqvF, rnmL, rnm, liveN, Chunk.live, goodH, Chunk.good, okL, ok, sz, szL, storL, stor, renT, okT]) hK
  · have hsz : s.size = 64 := by
      simp only [bne_eq_false_iff_eq] at hc'
      omega
    refine codeP_loop (pl := pl30) tabOk follows_mixed (by kernel_rfl) (fun m st => ∃ (k : Nat) (j : Nat → Value), k + m = 32 ∧ (∀ i, i < k → okD s i) ∧ st = ⟨⟨41, [(0, .str s), (2, .ptr 0 0), (4, .ptr 1 0), (12, .int .i64 (k : Nat))], j⟩, [.cells true [.fam 32 1 fun _ => .int .u8 0], .cells true [.fam 32 1 fun i => .int .u8 (nat (if i < k then pV s i else 0))]], []⟩) ?_ ?_
    · refine into_mk [some 0, some 1] [(0, .str s), (2, .ptr 0 0), (4, .ptr 1 0), (12, .int .i64 (0 : Nat))] [.cells true [.fam 32 1 fun _ => .int .u8 0], .cells true [.fam 32 1 fun i => .int .u8 (nat (if i < 0 then pV s i else 0))]] ?_ ?_ ?_ ?_ ?_ ?_ ?_ ?_
      · simp [slot, lkL, fixed, rg, renH, chEq, lookH, eqvL, eqv, eqvF, rnmL, rnm, liveN, Chunk.live, goodH, Chunk.good, okL, ok, sz, szL, storL, stor, renT, okT]
      · simp [slot, lkL, fixed, rg, renH, chEq, lookH, eqvL, eqv, eqvF, rnmL, rnm, liveN, Chunk.live, goodH, Chunk.good, okL, ok, sz, szL, storL, stor, renT, okT]
      · simp [slot, lkL, fixed, rg, renH, chEq, lookH, eqvL, eqv, eqvF, rnmL, rnm, liveN, Chunk.live, goodH, Chunk.good, okL, ok, sz, szL, storL, stor, renT, okT, nat]
      · simp [slot, lkL, fixed, rg, renH, chEq, lookH, eqvL, eqv, eqvF, rnmL, rnm, liveN, Chunk.live, goodH, Chunk.good, okL, ok, sz, szL, storL, stor, renT, okT]
      · simp [slot, lkL, fixed, rg, renH, chEq, lookH, eqvL, eqv, eqvF, rnmL, rnm, liveN, Chunk.live, goodH, Chunk.good, okL, ok, sz, szL, storL, stor, renT, okT]
      · simp [slot, lkL, fixed, rg, renH, chEq, lookH, eqvL, eqv, eqvF, rnmL, rnm, liveN, Chunk.live, goodH, Chunk.good, okL, ok, sz, szL, storL, stor, renT, okT]
      · simp [slot, lkL, fixed, rg, renH, chEq, lookH, eqvL, eqv, eqvF, rnmL, rnm, liveN, Chunk.live, goodH, Chunk.good, okL, ok, sz, szL, storL, stor, renT, okT]
      · intro j
        exact ⟨32, 0, j, by omega, fun i hi => by omega, rfl⟩
    · rintro m st ⟨k, j, hk, hp, rfl⟩
      simp -implicitDefEqProofs (maxSteps := 1000000) (disch := omega) only [↓vcB, ↓gd, ↓opP, ↓qv, ↓ef, ↓bslS, ↓stS, ↓mkS, ↓mupS, ↓appS, ↓s2bS, ↓resS, evB, Sx.look, slot, ↓lkL, putS, putO, argsL, ↓reduceIte, ofV, of1, lookH, putH, List.length_cons, List.length_nil, List.length_append, List.replicate, List.append, List.cons_append, List.nil_append, List.append_assoc, List.map_cons, List.map_nil, convS, fldA, nthT, idxA, idxS, fldS, oslN, bnd, slS, unS, valI, lenS, lookS, takeC, parts, asRow, single, rdF, Ent.row, ldS, sz, szL, wrF, bldF, plT, bldS, srcS, nilS, nilEq, binS2, structS, eqL, eqF, binS, arrS, isI, tupS, stor, storL, Value.oneCell', minS, maxS, capS, true_and, and_true, Nat.reduceAdd, Nat.reduceSub, Nat.reduceMul, Nat.reduceLT, Nat.reduceLeDiff, Nat.reduceEqDiff, Nat.reduceBEq, Int.reduceToNat, Int.reduceNeg, Nat.zero_add, Nat.add_zero, Nat.sub_self, Nat.sub_zero, Nat.zero_mul, Nat.mul_one, Nat.zero_le, if_true, if_false, reduceIte, stays, inL, same1, qn, ldN, convN, lenN, List.mem_cons, List.not_mem_nil, Option.map_some, Option.map_none, cond_true, cond_false, Sx.imp_true, Sx.imp_false, implies_true, Int.reduceEq, Int.reduceNe, Int.reduceLE, Int.reduceLT, decide_true, decide_false, List.zipIdx_cons, List.zipIdx_nil, or_false, false_or, forall_eq_or_imp, forall_eq, ne_eq, reduceCtorEq, not_false_eq_true, Bool.false_eq_true, Bool.true_eq_false, Bool.not_true, Bool.not_false, notInt, numB, tabB, ↓Array.reduceGetElem?]
      refine ⟨Sx.imp_intro fun hc' => ?_, Sx.imp_intro fun hc' => ?_⟩
      · have hk3 : k < 32 := by have := of_decide_eq_true hc'; omega
        have a0 : IntKind.i64.wrap (2 * (k : Int)) = ((2 * k : Nat) : Int) := by rw [wrap64 (by omega) (by omega)]; omega
        have a1 : IntKind.i64.wrap (((2 * k : Nat) : Int) + 1) = ((2 * k + 1 : Nat) : Int) := by rw [wrap64 (by omega) (by omega)]; omega
        have a2 : IntKind.i64.wrap ((k : Int) + 1) = ((k + 1 : Nat) : Int) := by rw [wrap64 (by omega) (by omega)]; omega
        simp -implicitDefEqProofs (maxSteps := 1000000) (disch := omega) only [↓vcB, ↓gd, ↓opP, ↓qv, ↓ef, ↓bslS, ↓stS, ↓mkS, ↓mupS, ↓appS, ↓s2bS, ↓resS, evB, Sx.look, slot, ↓lkL, putS, putO, argsL, ↓reduceIte, ofV, of1, lookH, putH, List.length_cons, List.length_nil, List.length_append, List.replicate, List.append, List.cons_append, List.nil_append, List.append_assoc, List.map_cons, List.map_nil, convS, fldA, nthT, idxA, idxS, fldS, oslN, bnd, slS, unS, valI, lenS, lookS, takeC, parts, asRow, single, rdF, Ent.row, ldS, sz, szL, wrF, bldF, plT, bldS, srcS, nilS, nilEq, binS2, structS, eqL, eqF, binS, arrS, isI, tupS, stor, storL, Value.oneCell', minS, maxS, capS, true_and, and_true, Nat.reduceAdd, Nat.reduceSub, Nat.reduceMul, Nat.reduceLT, Nat.reduceLeDiff, Nat.reduceEqDiff, Nat.reduceBEq, Int.reduceToNat, Int.reduceNeg, Nat.zero_add, Nat.add_zero, Nat.sub_self, Nat.sub_zero, Nat.zero_mul, Nat.mul_one, Nat.zero_le, if_true, if_false, reduceIte, stays, inL, same1, qn, ldN, convN, lenN, List.mem_cons, List.not_mem_nil, Option.map_some, Option.map_none, cond_true, cond_false, Sx.imp_true, Sx.imp_false, implies_true, Int.reduceEq, Int.reduceNe, Int.reduceLE, Int.reduceLT, decide_true, decide_false, List.zipIdx_cons, List.zipIdx_nil, or_false, false_or, forall_eq_or_imp, forall_eq, ne_eq, reduceCtorEq, not_false_eq_true, Bool.false_eq_true, Bool.true_eq_false, Bool.not_true, Bool.not_false, notInt, numB, tabB, ↓Array.reduceGetElem?, pl30, a0, a1, a2, Int.toNat_natCast, res30, hsz, bv_eq]
        refine ⟨⟨by omega, by omega⟩, ⟨by omega, by omega⟩, c58 _ _ ?_⟩
        simp -implicitDefEqProofs (maxSteps := 1000000) (disch := omega) only [↓vcB, ↓gd, ↓opP, ↓qv, ↓ef, ↓bslS, ↓stS, ↓mkS, ↓mupS, ↓appS, ↓s2bS, ↓resS, evB, Sx.look, slot, ↓lkL, putS, putO, argsL, ↓reduceIte, ofV, of1, lookH, putH, List.length_cons, List.length_nil, List.length_append, List.replicate, List.append, List.cons_append, List.nil_append, List.append_assoc, List.map_cons, List.map_nil, convS, fldA, nthT, idxA, idxS, fldS, oslN, bnd, slS, unS, valI, lenS, lookS, takeC, parts, asRow, single, rdF, Ent.row, ldS, sz, szL, wrF, bldF, plT, bldS, srcS, nilS, nilEq, binS2, structS, eqL, eqF, binS, arrS, isI, tupS, stor, storL, Value.oneCell', minS, maxS, capS, true_and, and_true, Nat.reduceAdd, Nat.reduceSub, Nat.reduceMul, Nat.reduceLT, Nat.reduceLeDiff, Nat.reduceEqDiff, Nat.reduceBEq, Int.reduceToNat, Int.reduceNeg, Nat.zero_add, Nat.add_zero, Nat.sub_self, Nat.sub_zero, Nat.zero_mul, Nat.mul_one, Nat.zero_le, if_true, if_false, reduceIte, stays, inL, same1, qn, ldN, convN, lenN, List.mem_cons, List.not_mem_nil, Option.map_some, Option.map_none, cond_true, cond_false, Sx.imp_true, Sx.imp_false, implies_true, Int.reduceEq, Int.reduceNe, Int.reduceLE, Int.reduceLT, decide_true, decide_false, List.zipIdx_cons, List.zipIdx_nil, or_false, false_or, forall_eq_or_imp, forall_eq, ne_eq, reduceCtorEq, not_false_eq_true, Bool.false_eq_true, Bool.true_eq_false, Bool.not_true, Bool.not_false, notInt, numB, tabB, ↓Array.reduceGetElem?, pl30, a0, a1, a2, Int.toNat_natCast, res30, hsz, bv_eq]
        refine c58 _ _ ?_
        have g : ∀ x : BitVec 8, decide (nat x > 15) = decide (¬ x ≤ 15) := by decide
        simp -implicitDefEqProofs (maxSteps := 1000000) (disch := omega) only [↓vcB, ↓gd, ↓opP, ↓qv, ↓ef, ↓bslS, ↓stS, ↓mkS, ↓mupS, ↓appS, ↓s2bS, ↓resS, evB, Sx.look, slot, ↓lkL, putS, putO, argsL, ↓reduceIte, ofV, of1, lookH, putH, List.length_cons, List.length_nil, List.length_append, List.replicate, List.append, List.cons_append, List.nil_append, List.append_assoc, List.map_cons, List.map_nil, convS, fldA, nthT, idxA, idxS, fldS, oslN, bnd, slS, unS, valI, lenS, lookS, takeC, parts, asRow, single, rdF, Ent.row, ldS, sz, szL, wrF, bldF, plT, bldS, srcS, nilS, nilEq, binS2, structS, eqL, eqF, binS, arrS, isI, tupS, stor, storL, Value.oneCell', minS, maxS, capS, true_and, and_true, Nat.reduceAdd, Nat.reduceSub, Nat.reduceMul, Nat.reduceLT, Nat.reduceLeDiff, Nat.reduceEqDiff, Nat.reduceBEq, Int.reduceToNat, Int.reduceNeg, Nat.zero_add, Nat.add_zero, Nat.sub_self, Nat.sub_zero, Nat.zero_mul, Nat.mul_one, Nat.zero_le, if_true, if_false, reduceIte, stays, inL, same1, qn, ldN, convN, lenN, List.mem_cons, List.not_mem_nil, Option.map_some, Option.map_none, cond_true, cond_false, Sx.imp_true, Sx.imp_false, implies_true, Int.reduceEq, Int.reduceNe, Int.reduceLE, Int.reduceLT, decide_true, decide_false, List.zipIdx_cons, List.zipIdx_nil, or_false, false_or, forall_eq_or_imp, forall_eq, ne_eq, reduceCtorEq, not_false_eq_true, Bool.false_eq_true, Bool.true_eq_false, Bool.not_true, Bool.not_false, notInt, numB, tabB, ↓Array.reduceGetElem?, pl30, a0, a1, a2, Int.toNat_natCast, res30, hsz, bv_eq, g]
        have bad : ¬ okD s k → IntoR 0 (SV.tup [SV.fam 32 1 fun x => SV.int IntKind.u8 0, SV.bool false])
            [Chunk.cells true [SV.fam 32 1 fun x => SV.int IntKind.u8 0],
              Chunk.cells true [SV.fam 32 1 fun i => SV.int IntKind.u8 (nat (if i < k then pV s i else 0))]] K := fun hno => by
          have hz : ¬ pOk s := fun h => hno (h.2 k hk3)
          have e : (SV.tup [SV.fam 32 1 fun i => SV.int IntKind.u8 (nat (pD s i)), SV.bool (decide (pOk s))]) = SV.tup [SV.fam 32 1 fun x => SV.int IntKind.u8 0, SV.bool false] := by
            simp [pD, hz, nat]
          rw [e] at hK
          exact intoR_take [] rfl rfl trivial (by simp [slot, lkL, fixed, rg, renH, chEq, lookH, eqvL, eqv, eqvF, rnmL, rnm, liveN, Chunk.live, goodH, Chunk.good, okL, ok, sz, szL, storL, stor, renT, okT]) hK
        refine ⟨Sx.imp_intro fun h1 => ⟨Sx.imp_intro fun h2 => ?_, Sx.imp_intro fun h2 => ?_⟩, Sx.imp_intro fun h1 => ?_⟩
        · exact bad fun h => of_decide_eq_true h2 h.2
        · have ho : okD s k := ⟨Decidable.of_not_not (of_decide_eq_false h1), Decidable.of_not_not (of_decide_eq_false h2)⟩
          refine ⟨⟨by omega, by omega⟩, hk3, ?_⟩
          refine into_mk [some 0, some 1] [(0, .str s), (2, .ptr 0 0), (4, .ptr 1 0), (12, .int .i64 (k + 1 : Nat))] [.cells true [.fam 32 1 fun _ => .int .u8 0], .cells true [.fam 32 1 fun i => .int .u8 (nat (if i < k + 1 then pV s i else 0))]] ?_ ?_ ?_ ?_ ?_ ?_ ?_ ?_
          · simp [slot, lkL, fixed, rg, renH, chEq, lookH, eqvL, eqv, eqvF, rnmL, rnm, liveN, Chunk.live, goodH, Chunk.good, okL, ok, sz, szL, storL, stor, renT, okT]
          · simp [slot, lkL, fixed, rg, renH, chEq, lookH, eqvL, eqv, eqvF, rnmL, rnm, liveN, Chunk.live, goodH, Chunk.good, okL, ok, sz, szL, storL, stor, renT, okT]
          · simp [slot, lkL, fixed, rg, renH, chEq, lookH, eqvL, eqv, eqvF, rnmL, rnm, liveN, Chunk.live, goodH, Chunk.good, okL, ok, sz, szL, storL, stor, renT, okT]
            intro i hi
            by_cases h : i = k
            · subst h
              simp [eqv, pV]
            · have e : (i < k + 1) = (i < k) := by simp only [eq_iff_iff]; omega
              simp only [h, if_false, e, eqv]
          · simp [slot, lkL, fixed, rg, renH, chEq, lookH, eqvL, eqv, eqvF, rnmL, rnm, liveN, Chunk.live, goodH, Chunk.good, okL, ok, sz, szL, storL, stor, renT, okT]
          · simp [slot, lkL, fixed, rg, renH, chEq, lookH, eqvL, eqv, eqvF, rnmL, rnm, liveN, Chunk.live, goodH, Chunk.good, okL, ok, sz, szL, storL, stor, renT, okT]
          · simp [slot, lkL, fixed, rg, renH, chEq, lookH, eqvL, eqv, eqvF, rnmL, rnm, liveN, Chunk.live, goodH, Chunk.good, okL, ok, sz, szL, storL, stor, renT, okT]
          · simp [slot, lkL, fixed, rg, renH, chEq, lookH, eqvL, eqv, eqvF, rnmL, rnm, liveN, Chunk.live, goodH, Chunk.good, okL, ok, sz, szL, storL, stor, renT, okT]
          · intro j
            refine ⟨m - 1, by omega, k + 1, j, by omega, fun i hi => ?_, rfl⟩
            by_cases h : i = k
            · exact h ▸ ho
            · exact hp i (by omega)
        · exact bad fun h => of_decide_eq_true h1 h.1
      · have hk4 : k = 32 := by have := of_decide_eq_false hc'; omega
        subst hk4
        have hy : pOk s := ⟨hsz, hp⟩
        refine intoR_mk [] (.tup [.fam 32 1 fun i => .int .u8 (nat (pD s i)), .bool (decide (pOk s))]) [] ?_ ?_ ?_ ?_ ?_ ?_ ?_ hK
        · simp [slot, lkL, fixed, rg, renH, chEq, lookH, eqvL, eqv, eqvF, rnmL, rnm, liveN, Chunk.live, goodH, Chunk.good, okL, ok, sz, szL, storL, stor, renT, okT]
        · simp [slot, lkL, fixed, rg, renH, chEq, lookH, eqvL, eqv, eqvF, rnmL, rnm, liveN, Chunk.live, goodH, Chunk.good, okL, ok, sz, szL, storL, stor, renT, okT]
        · simp [slot, lkL, fixed, rg, renH, chEq, lookH, eqvL, eqv, eqvF, rnmL, rnm, liveN, Chunk.live, goodH, Chunk.good, okL, ok, sz, szL, storL, stor, renT, okT]
        · simp [slot, lkL, fixed, rg, renH, chEq, lookH, eqvL, eqv, eqvF, rnmL, rnm, liveN, Chunk.live, goodH, Chunk.good, okL, ok, sz, szL, storL, stor, renT, okT]
        · simp [slot, lkL, fixed, rg, renH, chEq, lookH, eqvL, eqv, eqvF, rnmL, rnm, liveN, Chunk.live, goodH, Chunk.good, okL, ok, sz, szL, storL, stor, renT, okT]
        · simp [slot, lkL, fixed, rg, renH, chEq, lookH, eqvL, eqv, eqvF, rnmL, rnm, liveN, Chunk.live, goodH, Chunk.good, okL, ok, sz, szL, storL, stor, renT, okT, hy, pD]
          intro i hi
          simp [hi]
        · simp [slot, lkL, fixed, rg, renH, chEq, lookH, eqvL, eqv, eqvF, rnmL, rnm, liveN, Chunk.live, goodH, Chunk.good, okL, ok, sz, szL, storL, stor, renT, okT]

theorem c30 (s : ByteArray) {h : List Chunk} (K : Tok → SV → List Chunk → Prop) (hK : K .mk (.tup [.fam 32 1 fun i => .int .u8 (nat (pD s i)), .bool (decide (pOk s))]) h) : callP Try.prog 30 [.str s] h K := by
  refine callP_frame (argsL := [.str s]) (KL := fun _ v h' => v = .tup [.fam 32 1 fun i => .int .u8 (nat (pD s i)), .bool (decide (pOk s))] ∧ h' = []) [] (c30l s _ ⟨rfl, rfl⟩) List.nodup_nil trivial trivial (by simp [slot, lkL, fixed, rg, renH, chEq, lookH, eqvL, eqv, eqvF, rnmL, rnm, liveN, Chunk.live, goodH, Chunk.good, okL, ok, sz, szL, storL, stor, renT, okT, has, upG, up, nth, roOk, keepsLive, Chunk.wr, lay, rnmC, putH]) rfl ?_
  rintro v h' ⟨rfl, rfl⟩
  refine ⟨by simp [slot, lkL, fixed, rg, renH, chEq, lookH, eqvL, eqv, eqvF, rnmL, rnm, liveN, Chunk.live, goodH, Chunk.good, okL, ok, sz, szL, storL, stor, renT, okT, has, upG, up, nth, roOk, keepsLive, Chunk.wr, lay, rnmC, putH], trivial, ?_⟩
  simpa [rnm, rnmL, lay] using hK
end Go.Proofs.Ytbjelfgclhmedaa
