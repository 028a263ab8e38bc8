/- Contracts of functions that the laws reach, by the symbolic executor of the texts Sxa to Sxt. No condition. -/
import Derived.Test.YtbjelfgclhmedaaU12
import Derived.Test.YtbjelfgclhmedaaU13
set_option linter.all false
set_option maxRecDepth 40000
namespace Go.Proofs.Ytbjelfgclhmedaa
open Go Go.Sx

def pl23 : Nat → Plan
  | 17 => (.q 0 (.q 1 (.q 2 (.e1 3 [0, 2] (.e1 4 [0, 2, 3] .nil)))))
  | _ => .nil


def zW (len : Nat) : Nat := (119 - len % 64) % 64
def padW (len z : Nat) (B : Nat → BitVec 8) (i : Nat) : BitVec 8 := if i < len then B i else if i = len then 128#8 else 0
def padX (len : Nat) (long : BitVec 64) (B : Nat → BitVec 8) (i : Nat) : BitVec 8 :=
  if i < len + 1 + zW len then padW len (zW len) B i else (long >>> (8 * (7 - (i - (len + 1 + zW len))))).setWidth 8
theorem res23 : Try.f23.results.toList = [.cell 2 29] := rfl
set_option maxHeartbeats 4000000 in
theorem c23l (m d e len : Nat) (B : Nat → BitVec 8) (hm : e + len ≤ m) (hl : len ≤ 70368744177664) (K : Tok → SV → List Chunk → Prop)
    (hK : K .mk (.fam 32 1 fun i => .int .u8 (nat (dig (blk iv (padX len (BitVec.ofNat 64 len * 8#64) fun i => B (e + i)) ((len + 1 + zW len + 8) / 64)) i))) [.row false m 1 fun i => .int .u8 (nat (B i))]) :
    callP Try.prog 23 [.osl 0 d e 1 len] [.row false m 1 fun i => .int .u8 (nat (B i))] K := by
  refine callP_of_code tabOk Try.func23 (by kernel_rfl) rfl (Nat.le_of_ble_eq_true rfl) (codeP_of_vc (pl := pl23) tabOk follows_mixed (by kernel_rfl) ?_)
  rw [Try.ntmps23]
  simp -implicitDefEqProofs (maxSteps := 1000000) (disch := omega) only [↓vcB, ↓gd, ↓opP, ↓qv, ↓ef, ↓bslS, ↓stS, ↓mkS, ↓mupS, ↓appS, ↓s2bS, ↓resS, evB, Sx.look, slot, ↓lkL, putS, putO, argsL, ↓reduceIte, ofV, of1, lookH, putH, List.length_cons, List.length_nil, List.length_append, List.replicate, List.append, List.cons_append, List.nil_append, List.append_assoc, List.map_cons, List.map_nil, convS, fldA, nthT, idxA, idxS, fldS, oslN, bnd, slS, unS, valI, lenS, lookS, takeC, parts, asRow, single, rdF, Ent.row, ldS, sz, szL, wrF, bldF, plT, bldS, srcS, nilS, nilEq, binS2, structS, eqL, eqF, binS, arrS, isI, tupS, stor, storL, Value.oneCell', minS, maxS, capS, true_and, and_true, Nat.reduceAdd, Nat.reduceSub, Nat.reduceMul, Nat.reduceLT, Nat.reduceLeDiff, Nat.reduceEqDiff, Nat.reduceBEq, Int.reduceToNat, Int.reduceNeg, Nat.zero_add, Nat.add_zero, Nat.sub_self, Nat.sub_zero, Nat.zero_mul, Nat.mul_one, Nat.zero_le, if_true, if_false, reduceIte, stays, inL, same1, qn, ldN, convN, lenN, List.mem_cons, List.not_mem_nil, Option.map_some, Option.map_none, cond_true, cond_false, Sx.imp_true, Sx.imp_false, implies_true, Int.reduceEq, Int.reduceNe, Int.reduceLE, Int.reduceLT, decide_true, decide_false, List.zipIdx_cons, List.zipIdx_nil, or_false, false_or, forall_eq_or_imp, forall_eq, ne_eq, reduceCtorEq, not_false_eq_true, Bool.false_eq_true, Bool.true_eq_false, Bool.not_true, Bool.not_false, notInt, numB, tabB, Array.reduceGetElem?, res23]
  refine c55 _ ?_
  simp -implicitDefEqProofs (maxSteps := 1000000) (disch := omega) only [↓vcB, ↓gd, ↓opP, ↓qv, ↓ef, ↓bslS, ↓stS, ↓mkS, ↓mupS, ↓appS, ↓s2bS, ↓resS, evB, Sx.look, slot, ↓lkL, putS, putO, argsL, ↓reduceIte, ofV, of1, lookH, putH, List.length_cons, List.length_nil, List.length_append, List.replicate, List.append, List.cons_append, List.nil_append, List.append_assoc, List.map_cons, List.map_nil, convS, fldA, nthT, idxA, idxS, fldS, oslN, bnd, slS, unS, valI, lenS, lookS, takeC, parts, asRow, single, rdF, Ent.row, ldS, sz, szL, wrF, bldF, plT, bldS, srcS, nilS, nilEq, binS2, structS, eqL, eqF, binS, arrS, isI, tupS, stor, storL, Value.oneCell', minS, maxS, capS, true_and, and_true, Nat.reduceAdd, Nat.reduceSub, Nat.reduceMul, Nat.reduceLT, Nat.reduceLeDiff, Nat.reduceEqDiff, Nat.reduceBEq, Int.reduceToNat, Int.reduceNeg, Nat.zero_add, Nat.add_zero, Nat.sub_self, Nat.sub_zero, Nat.zero_mul, Nat.mul_one, Nat.zero_le, if_true, if_false, reduceIte, stays, inL, same1, qn, ldN, convN, lenN, List.mem_cons, List.not_mem_nil, Option.map_some, Option.map_none, cond_true, cond_false, Sx.imp_true, Sx.imp_false, implies_true, Int.reduceEq, Int.reduceNe, Int.reduceLE, Int.reduceLT, decide_true, decide_false, List.zipIdx_cons, List.zipIdx_nil, or_false, false_or, forall_eq_or_imp, forall_eq, ne_eq, reduceCtorEq, not_false_eq_true, Bool.false_eq_true, Bool.true_eq_false, Bool.not_true, Bool.not_false, notInt, numB, tabB, Array.reduceGetElem?, res23]
  refine codeP_loop (pl := pl23) tabOk follows_mixed (by kernel_rfl) (fun m' s => ∃ (k : Nat) (j : Nat → Value), k + m' = 64 ∧ s = ⟨⟨85, [(0, .osl 0 d e 1 len), (2, .ptr 1 0), (3, .ptr 2 0), (14, .fam 64 1 fun i => .int .u64 (nat (primeB i))), (15, .int .i64 (k : Nat))], j⟩, [.row false m 1 fun i => .int .u8 (nat (B i)), .cells true [.fam 32 1 fun _ => .int .u8 0], .cells true [.fam 64 1 fun i => .int .u32 (nat (if i < k then rootK i else 0))]], []⟩) ?_ ?_
  · refine into_mk [some 0, some 1, some 2] [(0, .osl 0 d e 1 len), (2, .ptr 1 0), (3, .ptr 2 0), (14, .fam 64 1 fun i => .int .u64 (nat (primeB i))), (15, .int .i64 (0 : Nat))] [.row false m 1 fun i => .int .u8 (nat (B i)), .cells true [.fam 32 1 fun _ => .int .u8 0], .cells true [.fam 64 1 fun i => .int .u32 (nat (if i < 0 then rootK i else 0))]] ?_ ?_ ?_ ?_ ?_ ?_ ?_ ?_
    · simp [slot, lkL, fixed, rg, renH, chEq, lookH, eqvL, eqv, eqvF, rnmL, rnm, liveN, Chunk.live, goodH, Chunk.good, okL, ok, sz, szL, storL, stor, renT, okT]
    · simp [slot, lkL, fixed, rg, renH, chEq, lookH, eqvL, eqv, eqvF, rnmL, rnm, liveN, Chunk.live, goodH, Chunk.good, okL, ok, sz, szL, storL, stor, renT, okT]
    · simp [slot, lkL, fixed, rg, renH, chEq, lookH, eqvL, eqv, eqvF, rnmL, rnm, liveN, Chunk.live, goodH, Chunk.good, okL, ok, sz, szL, storL, stor, renT, okT, nat]
    · simp [slot, lkL, fixed, rg, renH, chEq, lookH, eqvL, eqv, eqvF, rnmL, rnm, liveN, Chunk.live, goodH, Chunk.good, okL, ok, sz, szL, storL, stor, renT, okT]
    · simp [slot, lkL, fixed, rg, renH, chEq, lookH, eqvL, eqv, eqvF, rnmL, rnm, liveN, Chunk.live, goodH, Chunk.good, okL, ok, sz, szL, storL, stor, renT, okT]
    · simp [slot, lkL, fixed, rg, renH, chEq, lookH, eqvL, eqv, eqvF, rnmL, rnm, liveN, Chunk.live, goodH, Chunk.good, okL, ok, sz, szL, storL, stor, renT, okT]
    · simp [slot, lkL, fixed, rg, renH, chEq, lookH, eqvL, eqv, eqvF, rnmL, rnm, liveN, Chunk.live, goodH, Chunk.good, okL, ok, sz, szL, storL, stor, renT, okT]
    · intro j
      exact ⟨64, 0, j, by omega, rfl⟩
  · rintro m' s ⟨k, j, hk, rfl⟩
    simp -implicitDefEqProofs (maxSteps := 1000000) (disch := omega) only [↓vcB, ↓gd, ↓opP, ↓qv, ↓ef, ↓bslS, ↓stS, ↓mkS, ↓mupS, ↓appS, ↓s2bS, ↓resS, evB, Sx.look, slot, ↓lkL, putS, putO, argsL, ↓reduceIte, ofV, of1, lookH, putH, List.length_cons, List.length_nil, List.length_append, List.replicate, List.append, List.cons_append, List.nil_append, List.append_assoc, List.map_cons, List.map_nil, convS, fldA, nthT, idxA, idxS, fldS, oslN, bnd, slS, unS, valI, lenS, lookS, takeC, parts, asRow, single, rdF, Ent.row, ldS, sz, szL, wrF, bldF, plT, bldS, srcS, nilS, nilEq, binS2, structS, eqL, eqF, binS, arrS, isI, tupS, stor, storL, Value.oneCell', minS, maxS, capS, true_and, and_true, Nat.reduceAdd, Nat.reduceSub, Nat.reduceMul, Nat.reduceLT, Nat.reduceLeDiff, Nat.reduceEqDiff, Nat.reduceBEq, Int.reduceToNat, Int.reduceNeg, Nat.zero_add, Nat.add_zero, Nat.sub_self, Nat.sub_zero, Nat.zero_mul, Nat.mul_one, Nat.zero_le, if_true, if_false, reduceIte, stays, inL, same1, qn, ldN, convN, lenN, List.mem_cons, List.not_mem_nil, Option.map_some, Option.map_none, cond_true, cond_false, Sx.imp_true, Sx.imp_false, implies_true, Int.reduceEq, Int.reduceNe, Int.reduceLE, Int.reduceLT, decide_true, decide_false, List.zipIdx_cons, List.zipIdx_nil, or_false, false_or, forall_eq_or_imp, forall_eq, ne_eq, reduceCtorEq, not_false_eq_true, Bool.false_eq_true, Bool.true_eq_false, Bool.not_true, Bool.not_false, notInt, numB, tabB, ↓Array.reduceGetElem?, pl23]
    refine ⟨Sx.imp_intro fun hc' => ?_, Sx.imp_intro fun hc' => ?_⟩
    · have hk3 : k < 64 := by have := of_decide_eq_true hc'; omega
      have a0 : IntKind.i64.wrap ((k : Int) + 1) = ((k + 1 : Nat) : Int) := by rw [wrap64 (by omega) (by omega)]; omega
      refine ⟨by omega, c56 _ _ ?_⟩
      simp -implicitDefEqProofs (maxSteps := 1000000) (disch := omega) only [↓vcB, ↓gd, ↓opP, ↓qv, ↓ef, ↓bslS, ↓stS, ↓mkS, ↓mupS, ↓appS, ↓s2bS, ↓resS, evB, Sx.look, slot, ↓lkL, putS, putO, argsL, ↓reduceIte, ofV, of1, lookH, putH, List.length_cons, List.length_nil, List.length_append, List.replicate, List.append, List.cons_append, List.nil_append, List.append_assoc, List.map_cons, List.map_nil, convS, fldA, nthT, idxA, idxS, fldS, oslN, bnd, slS, unS, valI, lenS, lookS, takeC, parts, asRow, single, rdF, Ent.row, ldS, sz, szL, wrF, bldF, plT, bldS, srcS, nilS, nilEq, binS2, structS, eqL, eqF, binS, arrS, isI, tupS, stor, storL, Value.oneCell', minS, maxS, capS, true_and, and_true, Nat.reduceAdd, Nat.reduceSub, Nat.reduceMul, Nat.reduceLT, Nat.reduceLeDiff, Nat.reduceEqDiff, Nat.reduceBEq, Int.reduceToNat, Int.reduceNeg, Nat.zero_add, Nat.add_zero, Nat.sub_self, Nat.sub_zero, Nat.zero_mul, Nat.mul_one, Nat.zero_le, if_true, if_false, reduceIte, stays, inL, same1, qn, ldN, convN, lenN, List.mem_cons, List.not_mem_nil, Option.map_some, Option.map_none, cond_true, cond_false, Sx.imp_true, Sx.imp_false, implies_true, Int.reduceEq, Int.reduceNe, Int.reduceLE, Int.reduceLT, decide_true, decide_false, List.zipIdx_cons, List.zipIdx_nil, or_false, false_or, forall_eq_or_imp, forall_eq, ne_eq, reduceCtorEq, not_false_eq_true, Bool.false_eq_true, Bool.true_eq_false, Bool.not_true, Bool.not_false, notInt, numB, tabB, ↓Array.reduceGetElem?, pl23, a0, Int.toNat_natCast]
      and_intros <;> try omega
      refine into_mk [some 0, some 1, some 2] [(0, .osl 0 d e 1 len), (2, .ptr 1 0), (3, .ptr 2 0), (14, .fam 64 1 fun i => .int .u64 (nat (primeB i))), (15, .int .i64 (k + 1 : Nat))] [.row false m 1 fun i => .int .u8 (nat (B i)), .cells true [.fam 32 1 fun _ => .int .u8 0], .cells true [.fam 64 1 fun i => .int .u32 (nat (if i < k + 1 then rootK i else 0))]] ?_ ?_ ?_ ?_ ?_ ?_ ?_ ?_
      · simp [slot, lkL, fixed, rg, renH, chEq, lookH, eqvL, eqv, eqvF, rnmL, rnm, liveN, Chunk.live, goodH, Chunk.good, okL, ok, sz, szL, storL, stor, renT, okT]
      · simp [slot, lkL, fixed, rg, renH, chEq, lookH, eqvL, eqv, eqvF, rnmL, rnm, liveN, Chunk.live, goodH, Chunk.good, okL, ok, sz, szL, storL, stor, renT, okT]
      · simp [slot, lkL, fixed, rg, renH, chEq, lookH, eqvL, eqv, eqvF, rnmL, rnm, liveN, Chunk.live, goodH, Chunk.good, okL, ok, sz, szL, storL, stor, renT, okT]
        intro i hi
        by_cases h : i = k
        · subst h
          simp [eqv, roots_are i hi]
        · have e : (i < k + 1) = (i < k) := by simp only [eq_iff_iff]; omega
          simp only [h, if_false, e, eqv]
      · simp [slot, lkL, fixed, rg, renH, chEq, lookH, eqvL, eqv, eqvF, rnmL, rnm, liveN, Chunk.live, goodH, Chunk.good, okL, ok, sz, szL, storL, stor, renT, okT]
      · simp [slot, lkL, fixed, rg, renH, chEq, lookH, eqvL, eqv, eqvF, rnmL, rnm, liveN, Chunk.live, goodH, Chunk.good, okL, ok, sz, szL, storL, stor, renT, okT]
      · simp [slot, lkL, fixed, rg, renH, chEq, lookH, eqvL, eqv, eqvF, rnmL, rnm, liveN, Chunk.live, goodH, Chunk.good, okL, ok, sz, szL, storL, stor, renT, okT]
      · simp [slot, lkL, fixed, rg, renH, chEq, lookH, eqvL, eqv, eqvF, rnmL, rnm, liveN, Chunk.live, goodH, Chunk.good, okL, ok, sz, szL, storL, stor, renT, okT]
      · intro j
        exact ⟨m' - 1, by omega, k + 1, j, by omega, rfl⟩
    · have hk4 : k = 64 := by have := of_decide_eq_false hc'; omega
      subst hk4
      and_intros <;> try omega
      refine codeP_loop (pl := pl23) tabOk follows_mixed (by kernel_rfl) (fun z' s => ∃ (z : Nat) (j : Nat → Value), z + z' = zW len ∧ s = ⟨⟨85, [(0, .osl 0 d e 1 len), (2, .ptr 1 0), (3, .ptr 2 0), (6, .ptr 3 0), (7, .osl 4 0 0 1 (len + 1 + z))], j⟩, [.row false m 1 fun i => .int .u8 (nat (B i)), .cells true [.fam 32 1 fun _ => .int .u8 0], .cells true [.fam 64 1 fun i => .int .u32 (nat (rootK i))], .cells true [.int .u32 (nat (iv 0)), .int .u32 (nat (iv 1)), .int .u32 (nat (iv 2)), .int .u32 (nat (iv 3)), .int .u32 (nat (iv 4)), .int .u32 (nat (iv 5)), .int .u32 (nat (iv 6)), .int .u32 (nat (iv 7))], .row true (len + 1 + z) 1 fun i => .int .u8 (nat (padW len z (fun i => B (e + i)) i))], []⟩) ?_ ?_
      · refine into_mk [some 0, some 1, some 2, some 3, some 6] [(0, .osl 0 d e 1 len), (2, .ptr 1 0), (3, .ptr 2 0), (6, .ptr 3 0), (7, .osl 4 0 0 1 (len + 1 + 0))] [.row false m 1 fun i => .int .u8 (nat (B i)), .cells true [.fam 32 1 fun _ => .int .u8 0], .cells true [.fam 64 1 fun i => .int .u32 (nat (rootK i))], .cells true [.int .u32 (nat (iv 0)), .int .u32 (nat (iv 1)), .int .u32 (nat (iv 2)), .int .u32 (nat (iv 3)), .int .u32 (nat (iv 4)), .int .u32 (nat (iv 5)), .int .u32 (nat (iv 6)), .int .u32 (nat (iv 7))], .row true (len + 1 + 0) 1 fun i => .int .u8 (nat (padW len 0 (fun i => B (e + i)) i))] ?_ ?_ ?_ ?_ ?_ ?_ ?_ ?_
        · simp [slot, lkL, fixed, rg, renH, chEq, lookH, eqvL, eqv, eqvF, rnmL, rnm, liveN, Chunk.live, goodH, Chunk.good, okL, ok, sz, szL, storL, stor, renT, okT]
        · simp [slot, lkL, fixed, rg, renH, chEq, lookH, eqvL, eqv, eqvF, rnmL, rnm, liveN, Chunk.live, goodH, Chunk.good, okL, ok, sz, szL, storL, stor, renT, okT]
        · simp [slot, lkL, fixed, rg, renH, chEq, lookH, eqvL, eqv, eqvF, rnmL, rnm, liveN, Chunk.live, goodH, Chunk.good, okL, ok, sz, szL, storL, stor, renT, okT, iv, ivL, nat]
          refine ⟨fun i hi => by simp [hi], fun i hi => ?_⟩
          by_cases h : i < len
          · simp [h, padW, eqv]
          · have h2 : i = len := by omega
            subst h2
            simp [padW, eqv, Sx.look, nat]
        · simp [slot, lkL, fixed, rg, renH, chEq, lookH, eqvL, eqv, eqvF, rnmL, rnm, liveN, Chunk.live, goodH, Chunk.good, okL, ok, sz, szL, storL, stor, renT, okT]
        · simp [slot, lkL, fixed, rg, renH, chEq, lookH, eqvL, eqv, eqvF, rnmL, rnm, liveN, Chunk.live, goodH, Chunk.good, okL, ok, sz, szL, storL, stor, renT, okT]
        · simp [slot, lkL, fixed, rg, renH, chEq, lookH, eqvL, eqv, eqvF, rnmL, rnm, liveN, Chunk.live, goodH, Chunk.good, okL, ok, sz, szL, storL, stor, renT, okT]
        · simp [slot, lkL, fixed, rg, renH, chEq, lookH, eqvL, eqv, eqvF, rnmL, rnm, liveN, Chunk.live, goodH, Chunk.good, okL, ok, sz, szL, storL, stor, renT, okT]
        · intro j
          exact ⟨zW len, 0, j, by omega, rfl⟩
      · rintro z' s ⟨z, j, hz, rfl⟩
        have e0 : ((len + 1 + z : Nat) : Int).tmod 64 = (((len + 1 + z) % 64 : Nat) : Int) := rem_nat (len + 1 + z) 64
        have hz3 : zW len < 64 := Nat.mod_lt _ (by decide)
        simp -implicitDefEqProofs (maxSteps := 1000000) (disch := omega) only [↓vcB, ↓gd, ↓opP, ↓qv, ↓ef, ↓bslS, ↓stS, ↓mkS, ↓mupS, ↓appS, ↓s2bS, ↓resS, evB, Sx.look, slot, ↓lkL, putS, putO, argsL, ↓reduceIte, ofV, of1, lookH, putH, List.length_cons, List.length_nil, List.length_append, List.replicate, List.append, List.cons_append, List.nil_append, List.append_assoc, List.map_cons, List.map_nil, convS, fldA, nthT, idxA, idxS, fldS, oslN, bnd, slS, unS, valI, lenS, lookS, takeC, parts, asRow, single, rdF, Ent.row, ldS, sz, szL, wrF, bldF, plT, bldS, srcS, nilS, nilEq, binS2, structS, eqL, eqF, binS, arrS, isI, tupS, stor, storL, Value.oneCell', minS, maxS, capS, true_and, and_true, Nat.reduceAdd, Nat.reduceSub, Nat.reduceMul, Nat.reduceLT, Nat.reduceLeDiff, Nat.reduceEqDiff, Nat.reduceBEq, Int.reduceToNat, Int.reduceNeg, Nat.zero_add, Nat.add_zero, Nat.sub_self, Nat.sub_zero, Nat.zero_mul, Nat.mul_one, Nat.zero_le, if_true, if_false, reduceIte, stays, inL, same1, qn, ldN, convN, lenN, List.mem_cons, List.not_mem_nil, Option.map_some, Option.map_none, cond_true, cond_false, Sx.imp_true, Sx.imp_false, implies_true, Int.reduceEq, Int.reduceNe, Int.reduceLE, Int.reduceLT, decide_true, decide_false, List.zipIdx_cons, List.zipIdx_nil, or_false, false_or, forall_eq_or_imp, forall_eq, ne_eq, reduceCtorEq, not_false_eq_true, Bool.false_eq_true, Bool.true_eq_false, Bool.not_true, Bool.not_false, notInt, numB, tabB, Array.reduceGetElem?, pl23, e0]
        refine ⟨Sx.imp_intro fun hc' => ?_, Sx.imp_intro fun hc' => ?_⟩
        · have hz2 : z < zW len := by
            simp only [bne_iff_ne, ne_eq] at hc'
            simp only [zW] at hz ⊢
            omega
          and_intros <;> try omega
          refine into_mk [some 0, some 1, some 2, some 3, some 6] [(0, .osl 0 d e 1 len), (2, .ptr 1 0), (3, .ptr 2 0), (6, .ptr 3 0), (7, .osl 4 0 0 1 (len + 1 + (z + 1)))] [.row false m 1 fun i => .int .u8 (nat (B i)), .cells true [.fam 32 1 fun _ => .int .u8 0], .cells true [.fam 64 1 fun i => .int .u32 (nat (rootK i))], .cells true [.int .u32 (nat (iv 0)), .int .u32 (nat (iv 1)), .int .u32 (nat (iv 2)), .int .u32 (nat (iv 3)), .int .u32 (nat (iv 4)), .int .u32 (nat (iv 5)), .int .u32 (nat (iv 6)), .int .u32 (nat (iv 7))], .row true (len + 1 + (z + 1)) 1 fun i => .int .u8 (nat (padW len (z + 1) (fun i => B (e + i)) i))] ?_ ?_ ?_ ?_ ?_ ?_ ?_ ?_
          · simp [slot, lkL, fixed, rg, renH, chEq, lookH, eqvL, eqv, eqvF, rnmL, rnm, liveN, Chunk.live, goodH, Chunk.good, okL, ok, sz, szL, storL, stor, renT, okT]
          · simp [slot, lkL, fixed, rg, renH, chEq, lookH, eqvL, eqv, eqvF, rnmL, rnm, liveN, Chunk.live, goodH, Chunk.good, okL, ok, sz, szL, storL, stor, renT, okT]
          · simp [slot, lkL, fixed, rg, renH, chEq, lookH, eqvL, eqv, eqvF, rnmL, rnm, liveN, Chunk.live, goodH, Chunk.good, okL, ok, sz, szL, storL, stor, renT, okT, iv, ivL, nat]
            refine ⟨by omega, fun i hi => ?_⟩
            by_cases h : i < len + 1 + z
            · simp [h, padW, eqv]
            · have h2 : i = len + 1 + z := by omega
              subst h2
              simp [padW, eqv, Sx.look, nat, show ¬ len + 1 + z < len by omega, show ¬ len + 1 + z = len by omega]
          · simp [slot, lkL, fixed, rg, renH, chEq, lookH, eqvL, eqv, eqvF, rnmL, rnm, liveN, Chunk.live, goodH, Chunk.good, okL, ok, sz, szL, storL, stor, renT, okT]
          · simp [slot, lkL, fixed, rg, renH, chEq, lookH, eqvL, eqv, eqvF, rnmL, rnm, liveN, Chunk.live, goodH, Chunk.good, okL, ok, sz, szL, storL, stor, renT, okT]
          · simp [slot, lkL, fixed, rg, renH, chEq, lookH, eqvL, eqv, eqvF, rnmL, rnm, liveN, Chunk.live, goodH, Chunk.good, okL, ok, sz, szL, storL, stor, renT, okT]
            try omega
          · simp [slot, lkL, fixed, rg, renH, chEq, lookH, eqvL, eqv, eqvF, rnmL, rnm, liveN, Chunk.live, goodH, Chunk.good, okL, ok, sz, szL, storL, stor, renT, okT]
          · intro j
            exact ⟨z' - 1, by omega, z + 1, j, by omega, rfl⟩
        · have hz2 : z = zW len := by
            simp only [bne_eq_false_iff_eq] at hc'
            simp only [zW] at hz ⊢
            omega
          subst hz2
          have hz3 : zW len < 64 := Nat.mod_lt _ (by decide)
          obtain ⟨G, hG⟩ : ∃ G, G = BitVec.ofNat 64 len * 8#64 := ⟨_, rfl⟩
          have f0 : IntKind.u64.wrap (len : Int) = nat (BitVec.ofNat 64 len) := by
            rw [Go.Sx.wrap_small (k := .u64) rfl (by omega) (by rw [show IntKind.u64.bits = 64 from rfl]; omega)]
            simp only [nat, BitVec.toNat_ofNat]
            omega
          have f1 : IntKind.u64.wrap (nat (BitVec.ofNat 64 len) * 8) = nat G := by rw [hG]; exact mul64 _ 8#64
          rw [← hG] at hK
          simp -implicitDefEqProofs (maxSteps := 1000000) (disch := omega) only [↓vcB, ↓gd, ↓opP, ↓qv, ↓ef, ↓bslS, ↓stS, ↓mkS, ↓mupS, ↓appS, ↓s2bS, ↓resS, evB, Sx.look, slot, ↓lkL, putS, putO, argsL, ↓reduceIte, ofV, of1, lookH, putH, List.length_cons, List.length_nil, List.length_append, List.replicate, List.append, List.cons_append, List.nil_append, List.append_assoc, List.map_cons, List.map_nil, convS, fldA, nthT, idxA, idxS, fldS, oslN, bnd, slS, unS, valI, lenS, lookS, takeC, parts, asRow, single, rdF, Ent.row, ldS, sz, szL, wrF, bldF, plT, bldS, srcS, nilS, nilEq, binS2, structS, eqL, eqF, binS, arrS, isI, tupS, stor, storL, Value.oneCell', minS, maxS, capS, true_and, and_true, Nat.reduceAdd, Nat.reduceSub, Nat.reduceMul, Nat.reduceLT, Nat.reduceLeDiff, Nat.reduceEqDiff, Nat.reduceBEq, Int.reduceToNat, Int.reduceNeg, Nat.zero_add, Nat.add_zero, Nat.sub_self, Nat.sub_zero, Nat.zero_mul, Nat.mul_one, Nat.zero_le, if_true, if_false, reduceIte, stays, inL, same1, qn, ldN, convN, lenN, List.mem_cons, List.not_mem_nil, Option.map_some, Option.map_none, cond_true, cond_false, Sx.imp_true, Sx.imp_false, implies_true, Int.reduceEq, Int.reduceNe, Int.reduceLE, Int.reduceLT, decide_true, decide_false, List.zipIdx_cons, List.zipIdx_nil, or_false, false_or, forall_eq_or_imp, forall_eq, ne_eq, reduceCtorEq, not_false_eq_true, Bool.false_eq_true, Bool.true_eq_false, Bool.not_true, Bool.not_false, notInt, numB, tabB, Array.reduceGetElem?, pl23, f0, f1]
          refine codeP_loop (pl := pl23) tabOk follows_mixed (by kernel_rfl) (fun k' s => ∃ (k : Nat) (j : Nat → Value), k + k' = 8 ∧ s = ⟨⟨85, [(2, .ptr 1 0), (3, .ptr 2 0), (6, .ptr 3 0), (7, .osl 4 0 0 1 (len + 1 + zW len + k)), (8, .int .u64 (nat G)), (9, .int .i64 (7 - (k : Nat)))], j⟩, [.row false m 1 fun i => .int .u8 (nat (B i)), .cells true [.fam 32 1 fun _ => .int .u8 0], .cells true [.fam 64 1 fun i => .int .u32 (nat (rootK i))], .cells true [.int .u32 (nat (iv 0)), .int .u32 (nat (iv 1)), .int .u32 (nat (iv 2)), .int .u32 (nat (iv 3)), .int .u32 (nat (iv 4)), .int .u32 (nat (iv 5)), .int .u32 (nat (iv 6)), .int .u32 (nat (iv 7))], .row true (len + 1 + zW len + k) 1 fun i => .int .u8 (nat (padX len G (fun i => B (e + i)) i))], []⟩) ?_ ?_
          · refine into_mk [some 0, some 1, some 2, some 3, some 4] [(2, .ptr 1 0), (3, .ptr 2 0), (6, .ptr 3 0), (7, .osl 4 0 0 1 (len + 1 + zW len + 0)), (8, .int .u64 (nat G)), (9, .int .i64 (7 - (0 : Nat)))] [.row false m 1 fun i => .int .u8 (nat (B i)), .cells true [.fam 32 1 fun _ => .int .u8 0], .cells true [.fam 64 1 fun i => .int .u32 (nat (rootK i))], .cells true [.int .u32 (nat (iv 0)), .int .u32 (nat (iv 1)), .int .u32 (nat (iv 2)), .int .u32 (nat (iv 3)), .int .u32 (nat (iv 4)), .int .u32 (nat (iv 5)), .int .u32 (nat (iv 6)), .int .u32 (nat (iv 7))], .row true (len + 1 + zW len + 0) 1 fun i => .int .u8 (nat (padX len G (fun i => B (e + i)) i))] ?_ ?_ ?_ ?_ ?_ ?_ ?_ ?_
            · simp [slot, lkL, fixed, rg, renH, chEq, lookH, eqvL, eqv, eqvF, rnmL, rnm, liveN, Chunk.live, goodH, Chunk.good, okL, ok, sz, szL, storL, stor, renT, okT]
            · simp [slot, lkL, fixed, rg, renH, chEq, lookH, eqvL, eqv, eqvF, rnmL, rnm, liveN, Chunk.live, goodH, Chunk.good, okL, ok, sz, szL, storL, stor, renT, okT]
            · simp [slot, lkL, fixed, rg, renH, chEq, lookH, eqvL, eqv, eqvF, rnmL, rnm, liveN, Chunk.live, goodH, Chunk.good, okL, ok, sz, szL, storL, stor, renT, okT, iv, ivL, nat]
              intro i hi
              simp [padX, hi, eqv, nat]
            · simp [slot, lkL, fixed, rg, renH, chEq, lookH, eqvL, eqv, eqvF, rnmL, rnm, liveN, Chunk.live, goodH, Chunk.good, okL, ok, sz, szL, storL, stor, renT, okT]
            · simp [slot, lkL, fixed, rg, renH, chEq, lookH, eqvL, eqv, eqvF, rnmL, rnm, liveN, Chunk.live, goodH, Chunk.good, okL, ok, sz, szL, storL, stor, renT, okT]
            · simp [slot, lkL, fixed, rg, renH, chEq, lookH, eqvL, eqv, eqvF, rnmL, rnm, liveN, Chunk.live, goodH, Chunk.good, okL, ok, sz, szL, storL, stor, renT, okT]
            · simp [slot, lkL, fixed, rg, renH, chEq, lookH, eqvL, eqv, eqvF, rnmL, rnm, liveN, Chunk.live, goodH, Chunk.good, okL, ok, sz, szL, storL, stor, renT, okT]
            · intro j
              exact ⟨8, 0, j, by omega, rfl⟩
          · rintro k' s ⟨k, j2, hk, rfl⟩
            by_cases hk8 : k = 8
            · subst hk8
              have f3 : (decide ((7 - ((8 : Nat) : Int)) ≥ 0)) = false := by decide
              simp -implicitDefEqProofs (maxSteps := 1000000) (disch := omega) only [↓vcB, ↓gd, ↓opP, ↓qv, ↓ef, ↓bslS, ↓stS, ↓mkS, ↓mupS, ↓appS, ↓s2bS, ↓resS, evB, Sx.look, slot, ↓lkL, putS, putO, argsL, ↓reduceIte, ofV, of1, lookH, putH, List.length_cons, List.length_nil, List.length_append, List.replicate, List.append, List.cons_append, List.nil_append, List.append_assoc, List.map_cons, List.map_nil, convS, fldA, nthT, idxA, idxS, fldS, oslN, bnd, slS, unS, valI, lenS, lookS, takeC, parts, asRow, single, rdF, Ent.row, ldS, sz, szL, wrF, bldF, plT, bldS, srcS, nilS, nilEq, binS2, structS, eqL, eqF, binS, arrS, isI, tupS, stor, storL, Value.oneCell', minS, maxS, capS, true_and, and_true, Nat.reduceAdd, Nat.reduceSub, Nat.reduceMul, Nat.reduceLT, Nat.reduceLeDiff, Nat.reduceEqDiff, Nat.reduceBEq, Int.reduceToNat, Int.reduceNeg, Nat.zero_add, Nat.add_zero, Nat.sub_self, Nat.sub_zero, Nat.zero_mul, Nat.mul_one, Nat.zero_le, if_true, if_false, reduceIte, stays, inL, same1, qn, ldN, convN, lenN, List.mem_cons, List.not_mem_nil, Option.map_some, Option.map_none, cond_true, cond_false, Sx.imp_true, Sx.imp_false, implies_true, Int.reduceEq, Int.reduceNe, Int.reduceLE, Int.reduceLT, decide_true, decide_false, List.zipIdx_cons, List.zipIdx_nil, or_false, false_or, forall_eq_or_imp, forall_eq, ne_eq, reduceCtorEq, not_false_eq_true, Bool.false_eq_true, Bool.true_eq_false, Bool.not_true, Bool.not_false, notInt, numB, tabB, Array.reduceGetElem?, pl23, f3]
              obtain ⟨N, hN⟩ : ∃ N, N = len + 1 + zW len + 8 := ⟨_, rfl⟩
              obtain ⟨T, hT⟩ : ∃ T, T = padX len G (fun i => B (e + i)) := ⟨_, rfl⟩
              rw [← hN, ← hT] at hK ⊢
              have hN64 : N % 64 = 0 := by simp only [zW] at hN; omega
              refine codeP_loop (pl := pl23) tabOk follows_mixed (by kernel_rfl) (fun m' s => ∃ (k d' : Nat) (j : Nat → Value), k + m' = N / 64 ∧ s = ⟨⟨85, [(2, .ptr 1 0), (3, .ptr 2 0), (6, .ptr 3 0), (7, .osl 4 d' (64 * k) 1 (N - 64 * k))], j⟩, [.row false m 1 fun i => .int .u8 (nat (B i)), .cells true [.fam 32 1 fun _ => .int .u8 0], .cells true [.fam 64 1 fun i => .int .u32 (nat (rootK i))], .cells true [.int .u32 (nat (blk iv T k 0)), .int .u32 (nat (blk iv T k 1)), .int .u32 (nat (blk iv T k 2)), .int .u32 (nat (blk iv T k 3)), .int .u32 (nat (blk iv T k 4)), .int .u32 (nat (blk iv T k 5)), .int .u32 (nat (blk iv T k 6)), .int .u32 (nat (blk iv T k 7))], .row true N 1 (fun i => .int .u8 (nat (T i)))], []⟩) ?_ ?_
              · refine into_mk [some 0, some 1, some 2, some 3, some 4] [(2, .ptr 1 0), (3, .ptr 2 0), (6, .ptr 3 0), (7, .osl 4 0 (64 * 0) 1 (N - 64 * 0))] [.row false m 1 fun i => .int .u8 (nat (B i)), .cells true [.fam 32 1 fun _ => .int .u8 0], .cells true [.fam 64 1 fun i => .int .u32 (nat (rootK i))], .cells true [.int .u32 (nat (blk iv T 0 0)), .int .u32 (nat (blk iv T 0 1)), .int .u32 (nat (blk iv T 0 2)), .int .u32 (nat (blk iv T 0 3)), .int .u32 (nat (blk iv T 0 4)), .int .u32 (nat (blk iv T 0 5)), .int .u32 (nat (blk iv T 0 6)), .int .u32 (nat (blk iv T 0 7))], .row true N 1 (fun i => .int .u8 (nat (T i)))] ?_ ?_ ?_ ?_ ?_ ?_ ?_ ?_
                · simp [slot, lkL, fixed, rg, renH, chEq, lookH, eqvL, eqv, eqvF, rnmL, rnm, liveN, Chunk.live, goodH, Chunk.good, okL, ok, sz, szL, storL, stor, renT, okT]
                · simp [slot, lkL, fixed, rg, renH, chEq, lookH, eqvL, eqv, eqvF, rnmL, rnm, liveN, Chunk.live, goodH, Chunk.good, okL, ok, sz, szL, storL, stor, renT, okT]
                · simp [slot, lkL, fixed, rg, renH, chEq, lookH, eqvL, eqv, eqvF, rnmL, rnm, liveN, Chunk.live, goodH, Chunk.good, okL, ok, sz, szL, storL, stor, renT, okT, blk]
                · simp [slot, lkL, fixed, rg, renH, chEq, lookH, eqvL, eqv, eqvF, rnmL, rnm, liveN, Chunk.live, goodH, Chunk.good, okL, ok, sz, szL, storL, stor, renT, okT]
                · simp [slot, lkL, fixed, rg, renH, chEq, lookH, eqvL, eqv, eqvF, rnmL, rnm, liveN, Chunk.live, goodH, Chunk.good, okL, ok, sz, szL, storL, stor, renT, okT]
                · simp [slot, lkL, fixed, rg, renH, chEq, lookH, eqvL, eqv, eqvF, rnmL, rnm, liveN, Chunk.live, goodH, Chunk.good, okL, ok, sz, szL, storL, stor, renT, okT]
                · simp [slot, lkL, fixed, rg, renH, chEq, lookH, eqvL, eqv, eqvF, rnmL, rnm, liveN, Chunk.live, goodH, Chunk.good, okL, ok, sz, szL, storL, stor, renT, okT]
                · intro j
                  exact ⟨N / 64, 0, 0, j, by omega, rfl⟩
              · rintro m3 s ⟨k, d', j3, hk, rfl⟩
                have hk2 : 64 * k ≤ N := by omega
                simp -implicitDefEqProofs (maxSteps := 1000000) (disch := omega) only [↓vcB, ↓gd, ↓opP, ↓qv, ↓ef, ↓bslS, ↓stS, ↓mkS, ↓mupS, ↓appS, ↓s2bS, ↓resS, evB, Sx.look, slot, ↓lkL, putS, putO, argsL, ↓reduceIte, ofV, of1, lookH, putH, List.length_cons, List.length_nil, List.length_append, List.replicate, List.append, List.cons_append, List.nil_append, List.append_assoc, List.map_cons, List.map_nil, convS, fldA, nthT, idxA, idxS, fldS, oslN, bnd, slS, unS, valI, lenS, lookS, takeC, parts, asRow, single, rdF, Ent.row, ldS, sz, szL, wrF, bldF, plT, bldS, srcS, nilS, nilEq, binS2, structS, eqL, eqF, binS, arrS, isI, tupS, stor, storL, Value.oneCell', minS, maxS, capS, true_and, and_true, Nat.reduceAdd, Nat.reduceSub, Nat.reduceMul, Nat.reduceLT, Nat.reduceLeDiff, Nat.reduceEqDiff, Nat.reduceBEq, Int.reduceToNat, Int.reduceNeg, Nat.zero_add, Nat.add_zero, Nat.sub_self, Nat.sub_zero, Nat.zero_mul, Nat.mul_one, Nat.zero_le, if_true, if_false, reduceIte, stays, inL, same1, qn, ldN, convN, lenN, List.mem_cons, List.not_mem_nil, Option.map_some, Option.map_none, cond_true, cond_false, Sx.imp_true, Sx.imp_false, implies_true, Int.reduceEq, Int.reduceNe, Int.reduceLE, Int.reduceLT, decide_true, decide_false, List.zipIdx_cons, List.zipIdx_nil, or_false, false_or, forall_eq_or_imp, forall_eq, ne_eq, reduceCtorEq, not_false_eq_true, Bool.false_eq_true, Bool.true_eq_false, Bool.not_true, Bool.not_false, notInt, numB, tabB, ↓Array.reduceGetElem?, pl23, takeC_zero]
                refine ⟨Sx.imp_intro fun hc' => ?_, Sx.imp_intro fun hc' => ?_⟩
                · have hk3 : 64 * k + 64 ≤ N := by have := of_decide_eq_true hc'; omega
                  and_intros <;> try omega
                  refine callP_frame (hl := [.cells false [.fam 64 1 fun i => .int .u32 (nat (rootK i))], .row false N 1 fun i => .int .u8 (nat (T i))]) (argsL := [.agg [.int .u32 (nat (blk iv T k 0)), .int .u32 (nat (blk iv T k 1)), .int .u32 (nat (blk iv T k 2)), .int .u32 (nat (blk iv T k 3)), .int .u32 (nat (blk iv T k 4)), .int .u32 (nat (blk iv T k 5)), .int .u32 (nat (blk iv T k 6)), .int .u32 (nat (blk iv T k 7))], .osl 1 d' (64 * k) 1 64, .ptr 0 0])
                    (KL := fun _ v h' => v = .agg [.int .u32 (nat (comp (blk iv T k) (fun i => T (64 * k + i)) 0)), .int .u32 (nat (comp (blk iv T k) (fun i => T (64 * k + i)) 1)), .int .u32 (nat (comp (blk iv T k) (fun i => T (64 * k + i)) 2)), .int .u32 (nat (comp (blk iv T k) (fun i => T (64 * k + i)) 3)), .int .u32 (nat (comp (blk iv T k) (fun i => T (64 * k + i)) 4)), .int .u32 (nat (comp (blk iv T k) (fun i => T (64 * k + i)) 5)), .int .u32 (nat (comp (blk iv T k) (fun i => T (64 * k + i)) 6)), .int .u32 (nat (comp (blk iv T k) (fun i => T (64 * k + i)) 7))] ∧ h' = [.cells false [.fam 64 1 fun i => .int .u32 (nat (rootK i))], .row false N 1 fun i => .int .u8 (nat (T i))]) [2, 4]
                    (c57l (blk iv T k) d' (64 * k) N T (by omega) _ ⟨rfl, rfl⟩) ?_ ?_ ?_ ?_ ?_ ?_
                  · simp
                  · simp [slot, lkL, fixed, rg, renH, chEq, lookH, eqvL, eqv, eqvF, rnmL, rnm, liveN, Chunk.live, goodH, Chunk.good, okL, ok, sz, szL, storL, stor, renT, okT, has, upG, up, nth, roOk, keepsLive, Chunk.wr, lay, rnmC, putH]
                  · simp [slot, lkL, fixed, rg, renH, chEq, lookH, eqvL, eqv, eqvF, rnmL, rnm, liveN, Chunk.live, goodH, Chunk.good, okL, ok, sz, szL, storL, stor, renT, okT, has, upG, up, nth, roOk, keepsLive, Chunk.wr, lay, rnmC, putH]
                  · simp [slot, lkL, fixed, rg, renH, chEq, lookH, eqvL, eqv, eqvF, rnmL, rnm, liveN, Chunk.live, goodH, Chunk.good, okL, ok, sz, szL, storL, stor, renT, okT, has, upG, up, nth, roOk, keepsLive, Chunk.wr, lay, rnmC, putH]
                  · simp [slot, lkL, fixed, rg, renH, chEq, lookH, eqvL, eqv, eqvF, rnmL, rnm, liveN, Chunk.live, goodH, Chunk.good, okL, ok, sz, szL, storL, stor, renT, okT, has, upG, up, nth, roOk, keepsLive, Chunk.wr, lay, rnmC, putH]
                  · rintro v h' ⟨rfl, rfl⟩
                    refine ⟨by simp [slot, lkL, fixed, rg, renH, chEq, lookH, eqvL, eqv, eqvF, rnmL, rnm, liveN, Chunk.live, goodH, Chunk.good, okL, ok, sz, szL, storL, stor, renT, okT, has, upG, up, nth, roOk, keepsLive, Chunk.wr, lay, rnmC, putH], by simp [slot, lkL, fixed, rg, renH, chEq, lookH, eqvL, eqv, eqvF, rnmL, rnm, liveN, Chunk.live, goodH, Chunk.good, okL, ok, sz, szL, storL, stor, renT, okT, has, upG, up, nth, roOk, keepsLive, Chunk.wr, lay, rnmC, putH], ?_⟩
                    simp -implicitDefEqProofs (maxSteps := 1000000) (disch := omega) only [↓vcB, ↓gd, ↓opP, ↓qv, ↓ef, ↓bslS, ↓stS, ↓mkS, ↓mupS, ↓appS, ↓s2bS, ↓resS, evB, Sx.look, slot, ↓lkL, putS, putO, argsL, ↓reduceIte, ofV, of1, lookH, putH, List.length_cons, List.length_nil, List.length_append, List.replicate, List.append, List.cons_append, List.nil_append, List.append_assoc, List.map_cons, List.map_nil, convS, fldA, nthT, idxA, idxS, fldS, oslN, bnd, slS, unS, valI, lenS, lookS, takeC, parts, asRow, single, rdF, Ent.row, ldS, sz, szL, wrF, bldF, plT, bldS, srcS, nilS, nilEq, binS2, structS, eqL, eqF, binS, arrS, isI, tupS, stor, storL, Value.oneCell', minS, maxS, capS, true_and, and_true, Nat.reduceAdd, Nat.reduceSub, Nat.reduceMul, Nat.reduceLT, Nat.reduceLeDiff, Nat.reduceEqDiff, Nat.reduceBEq, Int.reduceToNat, Int.reduceNeg, Nat.zero_add, Nat.add_zero, Nat.sub_self, Nat.sub_zero, Nat.zero_mul, Nat.mul_one, Nat.zero_le, if_true, if_false, reduceIte, stays, inL, same1, qn, ldN, convN, lenN, List.mem_cons, List.not_mem_nil, Option.map_some, Option.map_none, cond_true, cond_false, Sx.imp_true, Sx.imp_false, implies_true, Int.reduceEq, Int.reduceNe, Int.reduceLE, Int.reduceLT, decide_true, decide_false, List.zipIdx_cons, List.zipIdx_nil, or_false, false_or, forall_eq_or_imp, forall_eq, ne_eq, reduceCtorEq, not_false_eq_true, Bool.false_eq_true, Bool.true_eq_false, Bool.not_true, Bool.not_false, notInt, numB, tabB, ↓Array.reduceGetElem?, pl23, takeC_zero, upG, up, nth, lay, rnmC, rnm, rnmL, Chunk.wr]
                    and_intros <;> try omega
                    refine into_mk [some 0, some 1, some 2, some 3, some 4] [(2, .ptr 1 0), (3, .ptr 2 0), (6, .ptr 3 0), (7, .osl 4 (64 * k) (64 * (k + 1)) 1 (N - 64 * (k + 1)))] [.row false m 1 fun i => .int .u8 (nat (B i)), .cells true [.fam 32 1 fun _ => .int .u8 0], .cells true [.fam 64 1 fun i => .int .u32 (nat (rootK i))], .cells true [.int .u32 (nat (blk iv T (k + 1) 0)), .int .u32 (nat (blk iv T (k + 1) 1)), .int .u32 (nat (blk iv T (k + 1) 2)), .int .u32 (nat (blk iv T (k + 1) 3)), .int .u32 (nat (blk iv T (k + 1) 4)), .int .u32 (nat (blk iv T (k + 1) 5)), .int .u32 (nat (blk iv T (k + 1) 6)), .int .u32 (nat (blk iv T (k + 1) 7))], .row true N 1 (fun i => .int .u8 (nat (T i)))] ?_ ?_ ?_ ?_ ?_ ?_ ?_ ?_
                    · simp [slot, lkL, fixed, rg, renH, chEq, lookH, eqvL, eqv, eqvF, rnmL, rnm, liveN, Chunk.live, goodH, Chunk.good, okL, ok, sz, szL, storL, stor, renT, okT]
                    · simp [slot, lkL, fixed, rg, renH, chEq, lookH, eqvL, eqv, eqvF, rnmL, rnm, liveN, Chunk.live, goodH, Chunk.good, okL, ok, sz, szL, storL, stor, renT, okT]
                    · simp [slot, lkL, fixed, rg, renH, chEq, lookH, eqvL, eqv, eqvF, rnmL, rnm, liveN, Chunk.live, goodH, Chunk.good, okL, ok, sz, szL, storL, stor, renT, okT, blk]
                    · simp [slot, lkL, fixed, rg, renH, chEq, lookH, eqvL, eqv, eqvF, rnmL, rnm, liveN, Chunk.live, goodH, Chunk.good, okL, ok, sz, szL, storL, stor, renT, okT]
                    · simp [slot, lkL, fixed, rg, renH, chEq, lookH, eqvL, eqv, eqvF, rnmL, rnm, liveN, Chunk.live, goodH, Chunk.good, okL, ok, sz, szL, storL, stor, renT, okT]
                    · simp [slot, lkL, fixed, rg, renH, chEq, lookH, eqvL, eqv, eqvF, rnmL, rnm, liveN, Chunk.live, goodH, Chunk.good, okL, ok, sz, szL, storL, stor, renT, okT, Nat.mul_add]
                      try omega
                    · simp [slot, lkL, fixed, rg, renH, chEq, lookH, eqvL, eqv, eqvF, rnmL, rnm, liveN, Chunk.live, goodH, Chunk.good, okL, ok, sz, szL, storL, stor, renT, okT]
                    · intro j
                      exact ⟨m3 - 1, by omega, k + 1, 64 * k, j, by omega, rfl⟩
                · have hk4 : k = N / 64 := by have := of_decide_eq_false hc'; omega
                  subst hk4
                  obtain ⟨V, hV⟩ : ∃ V, V = blk iv T (N / 64) := ⟨_, rfl⟩
                  rw [← hV] at hK ⊢
                  refine codeP_loop (pl := pl23) tabOk follows_mixed (by kernel_rfl) (fun m' s => ∃ (k : Nat) (j : Nat → Value), k + m' = 8 ∧ s = ⟨⟨85, [(2, .ptr 1 0), (10, .ptr 2 0), (62, .fam 8 1 fun i => .int .u32 (nat (V i))), (63, .int .i64 (k : Nat))], j⟩, [.row false m 1 fun i => .int .u8 (nat (B i)), .cells true [.fam 32 1 fun _ => .int .u8 0], .cells true [.fam 32 1 fun i => .int .u8 (nat (if i < 4 * k then dig V i else 0))]], []⟩) ?_ ?_
                  · refine into_mk [some 0, some 1, some 5] [(2, .ptr 1 0), (10, .ptr 2 0), (62, .fam 8 1 fun i => .int .u32 (nat (V i))), (63, .int .i64 (0 : Nat))] [.row false m 1 fun i => .int .u8 (nat (B i)), .cells true [.fam 32 1 fun _ => .int .u8 0], .cells true [.fam 32 1 fun i => .int .u8 (nat (if i < 4 * 0 then dig V i else 0))]] ?_ ?_ ?_ ?_ ?_ ?_ ?_ ?_
                    · simp [slot, lkL, fixed, rg, renH, chEq, lookH, eqvL, eqv, eqvF, rnmL, rnm, liveN, Chunk.live, goodH, Chunk.good, okL, ok, sz, szL, storL, stor, renT, okT]
                    · simp [slot, lkL, fixed, rg, renH, chEq, lookH, eqvL, eqv, eqvF, rnmL, rnm, liveN, Chunk.live, goodH, Chunk.good, okL, ok, sz, szL, storL, stor, renT, okT]
                    · simp [slot, lkL, fixed, rg, renH, chEq, lookH, eqvL, eqv, eqvF, rnmL, rnm, liveN, Chunk.live, goodH, Chunk.good, okL, ok, sz, szL, storL, stor, renT, okT, nat]
                    · simp [slot, lkL, fixed, rg, renH, chEq, lookH, eqvL, eqv, eqvF, rnmL, rnm, liveN, Chunk.live, goodH, Chunk.good, okL, ok, sz, szL, storL, stor, renT, okT]
                    · simp [slot, lkL, fixed, rg, renH, chEq, lookH, eqvL, eqv, eqvF, rnmL, rnm, liveN, Chunk.live, goodH, Chunk.good, okL, ok, sz, szL, storL, stor, renT, okT]
                    · simp [slot, lkL, fixed, rg, renH, chEq, lookH, eqvL, eqv, eqvF, rnmL, rnm, liveN, Chunk.live, goodH, Chunk.good, okL, ok, sz, szL, storL, stor, renT, okT]
                    · simp [slot, lkL, fixed, rg, renH, chEq, lookH, eqvL, eqv, eqvF, rnmL, rnm, liveN, Chunk.live, goodH, Chunk.good, okL, ok, sz, szL, storL, stor, renT, okT]
                    · intro j
                      exact ⟨8, 0, j, by omega, rfl⟩
                  · rintro m4 s ⟨k, j4, hk, rfl⟩
                    have a4 : IntKind.i64.wrap ((k : Int) + 1) = ((k + 1 : Nat) : Int) := by rw [wrap64 (by omega) (by omega)]; omega
                    simp -implicitDefEqProofs (maxSteps := 1000000) (disch := omega) only [↓vcB, ↓gd, ↓opP, ↓qv, ↓ef, ↓bslS, ↓stS, ↓mkS, ↓mupS, ↓appS, ↓s2bS, ↓resS, evB, Sx.look, slot, ↓lkL, putS, putO, argsL, ↓reduceIte, ofV, of1, lookH, putH, List.length_cons, List.length_nil, List.length_append, List.replicate, List.append, List.cons_append, List.nil_append, List.append_assoc, List.map_cons, List.map_nil, convS, fldA, nthT, idxA, idxS, fldS, oslN, bnd, slS, unS, valI, lenS, lookS, takeC, parts, asRow, single, rdF, Ent.row, ldS, sz, szL, wrF, bldF, plT, bldS, srcS, nilS, nilEq, binS2, structS, eqL, eqF, binS, arrS, isI, tupS, stor, storL, Value.oneCell', minS, maxS, capS, true_and, and_true, Nat.reduceAdd, Nat.reduceSub, Nat.reduceMul, Nat.reduceLT, Nat.reduceLeDiff, Nat.reduceEqDiff, Nat.reduceBEq, Int.reduceToNat, Int.reduceNeg, Nat.zero_add, Nat.add_zero, Nat.sub_self, Nat.sub_zero, Nat.zero_mul, Nat.mul_one, Nat.zero_le, if_true, if_false, reduceIte, stays, inL, same1, qn, ldN, convN, lenN, List.mem_cons, List.not_mem_nil, Option.map_some, Option.map_none, cond_true, cond_false, Sx.imp_true, Sx.imp_false, implies_true, Int.reduceEq, Int.reduceNe, Int.reduceLE, Int.reduceLT, decide_true, decide_false, List.zipIdx_cons, List.zipIdx_nil, or_false, false_or, forall_eq_or_imp, forall_eq, ne_eq, reduceCtorEq, not_false_eq_true, Bool.false_eq_true, Bool.true_eq_false, Bool.not_true, Bool.not_false, notInt, numB, tabB, ↓Array.reduceGetElem?, pl23, a4, Int.toNat_natCast, res23]
                    refine ⟨Sx.imp_intro fun hc' => ?_, Sx.imp_intro fun hc' => ?_⟩
                    · have hk3 : k < 8 := by have := of_decide_eq_true hc'; omega
                      refine ⟨by omega, ?_⟩
                      refine codeP_loop (pl := pl23) tabOk follows_mixed (by kernel_rfl) (fun m' s => ∃ (q : Nat) (j : Nat → Value), q + m' = 4 ∧ s = ⟨⟨85, [(2, .ptr 1 0), (10, .ptr 2 0), (11, .int .i64 (k : Nat)), (12, .int .u32 (nat (V k))), (62, .fam 8 1 fun i => .int .u32 (nat (V i))), (63, .int .i64 (k : Nat)), (67, .int .i64 (q : Nat))], j⟩, [.row false m 1 fun i => .int .u8 (nat (B i)), .cells true [.fam 32 1 fun _ => .int .u8 0], .cells true [.fam 32 1 fun i => .int .u8 (nat (if i < 4 * k + q then dig V i else 0))]], []⟩) ?_ ?_
                      · refine into_mk [some 0, some 1, some 2] [(2, .ptr 1 0), (10, .ptr 2 0), (11, .int .i64 (k : Nat)), (12, .int .u32 (nat (V k))), (62, .fam 8 1 fun i => .int .u32 (nat (V i))), (63, .int .i64 (k : Nat)), (67, .int .i64 (0 : Nat))] [.row false m 1 fun i => .int .u8 (nat (B i)), .cells true [.fam 32 1 fun _ => .int .u8 0], .cells true [.fam 32 1 fun i => .int .u8 (nat (if i < 4 * k + 0 then dig V i else 0))]] ?_ ?_ ?_ ?_ ?_ ?_ ?_ ?_
                        · simp [slot, lkL, fixed, rg, renH, chEq, lookH, eqvL, eqv, eqvF, rnmL, rnm, liveN, Chunk.live, goodH, Chunk.good, okL, ok, sz, szL, storL, stor, renT, okT]
                        · simp [slot, lkL, fixed, rg, renH, chEq, lookH, eqvL, eqv, eqvF, rnmL, rnm, liveN, Chunk.live, goodH, Chunk.good, okL, ok, sz, szL, storL, stor, renT, okT]
                        · simp [slot, lkL, fixed, rg, renH, chEq, lookH, eqvL, eqv, eqvF, rnmL, rnm, liveN, Chunk.live, goodH, Chunk.good, okL, ok, sz, szL, storL, stor, renT, okT]
                        · simp [slot, lkL, fixed, rg, renH, chEq, lookH, eqvL, eqv, eqvF, rnmL, rnm, liveN, Chunk.live, goodH, Chunk.good, okL, ok, sz, szL, storL, stor, renT, okT]
                        · simp [slot, lkL, fixed, rg, renH, chEq, lookH, eqvL, eqv, eqvF, rnmL, rnm, liveN, Chunk.live, goodH, Chunk.good, okL, ok, sz, szL, storL, stor, renT, okT]
                        · simp [slot, lkL, fixed, rg, renH, chEq, lookH, eqvL, eqv, eqvF, rnmL, rnm, liveN, Chunk.live, goodH, Chunk.good, okL, ok, sz, szL, storL, stor, renT, okT]
                        · simp [slot, lkL, fixed, rg, renH, chEq, lookH, eqvL, eqv, eqvF, rnmL, rnm, liveN, Chunk.live, goodH, Chunk.good, okL, ok, sz, szL, storL, stor, renT, okT]
                        · intro j
                          exact ⟨4, 0, j, by omega, rfl⟩
                      · rintro m5 s ⟨q, j5, hq, rfl⟩
                        by_cases hq4 : q = 4
                        · subst hq4
                          have g0 : decide (((4 : Nat) : Int) < 4) = false := by decide
                          simp -implicitDefEqProofs (maxSteps := 1000000) (disch := omega) only [↓vcB, ↓gd, ↓opP, ↓qv, ↓ef, ↓bslS, ↓stS, ↓mkS, ↓mupS, ↓appS, ↓s2bS, ↓resS, evB, Sx.look, slot, ↓lkL, putS, putO, argsL, ↓reduceIte, ofV, of1, lookH, putH, List.length_cons, List.length_nil, List.length_append, List.replicate, List.append, List.cons_append, List.nil_append, List.append_assoc, List.map_cons, List.map_nil, convS, fldA, nthT, idxA, idxS, fldS, oslN, bnd, slS, unS, valI, lenS, lookS, takeC, parts, asRow, single, rdF, Ent.row, ldS, sz, szL, wrF, bldF, plT, bldS, srcS, nilS, nilEq, binS2, structS, eqL, eqF, binS, arrS, isI, tupS, stor, storL, Value.oneCell', minS, maxS, capS, true_and, and_true, Nat.reduceAdd, Nat.reduceSub, Nat.reduceMul, Nat.reduceLT, Nat.reduceLeDiff, Nat.reduceEqDiff, Nat.reduceBEq, Int.reduceToNat, Int.reduceNeg, Nat.zero_add, Nat.add_zero, Nat.sub_self, Nat.sub_zero, Nat.zero_mul, Nat.mul_one, Nat.zero_le, if_true, if_false, reduceIte, stays, inL, same1, qn, ldN, convN, lenN, List.mem_cons, List.not_mem_nil, Option.map_some, Option.map_none, cond_true, cond_false, Sx.imp_true, Sx.imp_false, implies_true, Int.reduceEq, Int.reduceNe, Int.reduceLE, Int.reduceLT, decide_true, decide_false, List.zipIdx_cons, List.zipIdx_nil, or_false, false_or, forall_eq_or_imp, forall_eq, ne_eq, reduceCtorEq, not_false_eq_true, Bool.false_eq_true, Bool.true_eq_false, Bool.not_true, Bool.not_false, notInt, numB, tabB, ↓Array.reduceGetElem?, pl23, a4, g0, Int.toNat_natCast, res23]
                          refine into_mk [some 0, some 1, some 2] [(2, .ptr 1 0), (10, .ptr 2 0), (62, .fam 8 1 fun i => .int .u32 (nat (V i))), (63, .int .i64 (k + 1 : Nat))] [.row false m 1 fun i => .int .u8 (nat (B i)), .cells true [.fam 32 1 fun _ => .int .u8 0], .cells true [.fam 32 1 fun i => .int .u8 (nat (if i < 4 * (k + 1) then dig V i else 0))]] ?_ ?_ ?_ ?_ ?_ ?_ ?_ ?_
                          · simp [slot, lkL, fixed, rg, renH, chEq, lookH, eqvL, eqv, eqvF, rnmL, rnm, liveN, Chunk.live, goodH, Chunk.good, okL, ok, sz, szL, storL, stor, renT, okT]
                          · simp [slot, lkL, fixed, rg, renH, chEq, lookH, eqvL, eqv, eqvF, rnmL, rnm, liveN, Chunk.live, goodH, Chunk.good, okL, ok, sz, szL, storL, stor, renT, okT]
                          · simp [slot, lkL, fixed, rg, renH, chEq, lookH, eqvL, eqv, eqvF, rnmL, rnm, liveN, Chunk.live, goodH, Chunk.good, okL, ok, sz, szL, storL, stor, renT, okT, Nat.mul_add]
                          · simp [slot, lkL, fixed, rg, renH, chEq, lookH, eqvL, eqv, eqvF, rnmL, rnm, liveN, Chunk.live, goodH, Chunk.good, okL, ok, sz, szL, storL, stor, renT, okT]
                          · simp [slot, lkL, fixed, rg, renH, chEq, lookH, eqvL, eqv, eqvF, rnmL, rnm, liveN, Chunk.live, goodH, Chunk.good, okL, ok, sz, szL, storL, stor, renT, okT]
                          · simp [slot, lkL, fixed, rg, renH, chEq, lookH, eqvL, eqv, eqvF, rnmL, rnm, liveN, Chunk.live, goodH, Chunk.good, okL, ok, sz, szL, storL, stor, renT, okT]
                          · simp [slot, lkL, fixed, rg, renH, chEq, lookH, eqvL, eqv, eqvF, rnmL, rnm, liveN, Chunk.live, goodH, Chunk.good, okL, ok, sz, szL, storL, stor, renT, okT]
                          · intro j
                            exact ⟨m4 - 1, by omega, k + 1, j, by omega, rfl⟩
                        · have g0 : decide ((q : Int) < 4) = true := by simp; omega
                          have g1 : IntKind.i64.wrap (4 * (k : Int)) = ((4 * k : Nat) : Int) := by rw [wrap64 (by omega) (by omega)]; omega
                          have g2 : IntKind.i64.wrap (((4 * k : Nat) : Int) + (q : Int)) = ((4 * k + q : Nat) : Int) := by rw [wrap64 (by omega) (by omega)]; omega
                          have g3 : IntKind.i64.wrap (8 * (q : Int)) = ((8 * q : Nat) : Int) := by rw [wrap64 (by omega) (by omega)]; omega
                          have g4 : IntKind.i64.wrap (24 - ((8 * q : Nat) : Int)) = ((24 - 8 * q : Nat) : Int) := by rw [wrap64 (by omega) (by omega)]; omega
                          have g5 : IntKind.u64.wrap ((24 - 8 * q : Nat) : Int) = ((24 - 8 * q : Nat) : Int) := Go.Sx.wrap_small (k := .u64) rfl (by omega) (by rw [show IntKind.u64.bits = 64 from rfl]; omega)
                          have g6 := shr32 (V k) (24 - 8 * q) (by omega)
                          have g7 : IntKind.i64.wrap ((q : Int) + 1) = ((q + 1 : Nat) : Int) := by rw [wrap64 (by omega) (by omega)]; omega
                          simp -implicitDefEqProofs (maxSteps := 1000000) (disch := omega) only [↓vcB, ↓gd, ↓opP, ↓qv, ↓ef, ↓bslS, ↓stS, ↓mkS, ↓mupS, ↓appS, ↓s2bS, ↓resS, evB, Sx.look, slot, ↓lkL, putS, putO, argsL, ↓reduceIte, ofV, of1, lookH, putH, List.length_cons, List.length_nil, List.length_append, List.replicate, List.append, List.cons_append, List.nil_append, List.append_assoc, List.map_cons, List.map_nil, convS, fldA, nthT, idxA, idxS, fldS, oslN, bnd, slS, unS, valI, lenS, lookS, takeC, parts, asRow, single, rdF, Ent.row, ldS, sz, szL, wrF, bldF, plT, bldS, srcS, nilS, nilEq, binS2, structS, eqL, eqF, binS, arrS, isI, tupS, stor, storL, Value.oneCell', minS, maxS, capS, true_and, and_true, Nat.reduceAdd, Nat.reduceSub, Nat.reduceMul, Nat.reduceLT, Nat.reduceLeDiff, Nat.reduceEqDiff, Nat.reduceBEq, Int.reduceToNat, Int.reduceNeg, Nat.zero_add, Nat.add_zero, Nat.sub_self, Nat.sub_zero, Nat.zero_mul, Nat.mul_one, Nat.zero_le, if_true, if_false, reduceIte, stays, inL, same1, qn, ldN, convN, lenN, List.mem_cons, List.not_mem_nil, Option.map_some, Option.map_none, cond_true, cond_false, Sx.imp_true, Sx.imp_false, implies_true, Int.reduceEq, Int.reduceNe, Int.reduceLE, Int.reduceLT, decide_true, decide_false, List.zipIdx_cons, List.zipIdx_nil, or_false, false_or, forall_eq_or_imp, forall_eq, ne_eq, reduceCtorEq, not_false_eq_true, Bool.false_eq_true, Bool.true_eq_false, Bool.not_true, Bool.not_false, notInt, numB, tabB, ↓Array.reduceGetElem?, pl23, a4, g0, g1, g2, g3, g4, g5, g6, g7, Int.toNat_natCast, res23]
                          and_intros <;> try omega
                          refine into_mk [some 0, some 1, some 2] [(2, .ptr 1 0), (10, .ptr 2 0), (11, .int .i64 (k : Nat)), (12, .int .u32 (nat (V k))), (62, .fam 8 1 fun i => .int .u32 (nat (V i))), (63, .int .i64 (k : Nat)), (67, .int .i64 (q + 1 : Nat))] [.row false m 1 fun i => .int .u8 (nat (B i)), .cells true [.fam 32 1 fun _ => .int .u8 0], .cells true [.fam 32 1 fun i => .int .u8 (nat (if i < 4 * k + (q + 1) then dig V i else 0))]] ?_ ?_ ?_ ?_ ?_ ?_ ?_ ?_
                          · simp [slot, lkL, fixed, rg, renH, chEq, lookH, eqvL, eqv, eqvF, rnmL, rnm, liveN, Chunk.live, goodH, Chunk.good, okL, ok, sz, szL, storL, stor, renT, okT]
                          · simp [slot, lkL, fixed, rg, renH, chEq, lookH, eqvL, eqv, eqvF, rnmL, rnm, liveN, Chunk.live, goodH, Chunk.good, okL, ok, sz, szL, storL, stor, renT, okT]
                          · simp [slot, lkL, fixed, rg, renH, chEq, lookH, eqvL, eqv, eqvF, rnmL, rnm, liveN, Chunk.live, goodH, Chunk.good, okL, ok, sz, szL, storL, stor, renT, okT]
                            intro i hi
                            by_cases h : i = 4 * k + q
                            · subst h
                              simp [eqv, dig, show 4 * k + q < 4 * k + (q + 1) by omega, show (4 * k + q) / 4 = k by omega, show (4 * k + q) % 4 = q by omega]
                            · have e : (i < 4 * k + (q + 1)) = (i < 4 * k + q) := by simp only [eq_iff_iff]; omega
                              simp only [h, if_false, e, eqv]
                          · simp [slot, lkL, fixed, rg, renH, chEq, lookH, eqvL, eqv, eqvF, rnmL, rnm, liveN, Chunk.live, goodH, Chunk.good, okL, ok, sz, szL, storL, stor, renT, okT]
                          · simp [slot, lkL, fixed, rg, renH, chEq, lookH, eqvL, eqv, eqvF, rnmL, rnm, liveN, Chunk.live, goodH, Chunk.good, okL, ok, sz, szL, storL, stor, renT, okT]
                          · simp [slot, lkL, fixed, rg, renH, chEq, lookH, eqvL, eqv, eqvF, rnmL, rnm, liveN, Chunk.live, goodH, Chunk.good, okL, ok, sz, szL, storL, stor, renT, okT]
                          · simp [slot, lkL, fixed, rg, renH, chEq, lookH, eqvL, eqv, eqvF, rnmL, rnm, liveN, Chunk.live, goodH, Chunk.good, okL, ok, sz, szL, storL, stor, renT, okT]
                          · intro j
                            exact ⟨m5 - 1, by omega, q + 1, j, by omega, rfl⟩
                    · have hk4 : k = 8 := by have := of_decide_eq_false hc'; omega
                      subst hk4
                      refine intoR_mk [some 0] (.fam 32 1 fun i => .int .u8 (nat (dig V i))) [.row false m 1 fun i => .int .u8 (nat (B i))] ?_ ?_ ?_ ?_ ?_ ?_ ?_ hK
                      · simp [slot, lkL, fixed, rg, renH, chEq, lookH, eqvL, eqv, eqvF, rnmL, rnm, liveN, Chunk.live, goodH, Chunk.good, okL, ok, sz, szL, storL, stor, renT, okT]
                      · simp [slot, lkL, fixed, rg, renH, chEq, lookH, eqvL, eqv, eqvF, rnmL, rnm, liveN, Chunk.live, goodH, Chunk.good, okL, ok, sz, szL, storL, stor, renT, okT]
                      · simp [slot, lkL, fixed, rg, renH, chEq, lookH, eqvL, eqv, eqvF, rnmL, rnm, liveN, Chunk.live, goodH, Chunk.good, okL, ok, sz, szL, storL, stor, renT, okT]
                      · simp [slot, lkL, fixed, rg, renH, chEq, lookH, eqvL, eqv, eqvF, rnmL, rnm, liveN, Chunk.live, goodH, Chunk.good, okL, ok, sz, szL, storL, stor, renT, okT]
                      · simp [slot, lkL, fixed, rg, renH, chEq, lookH, eqvL, eqv, eqvF, rnmL, rnm, liveN, Chunk.live, goodH, Chunk.good, okL, ok, sz, szL, storL, stor, renT, okT]
                      · simp [slot, lkL, fixed, rg, renH, chEq, lookH, eqvL, eqv, eqvF, rnmL, rnm, liveN, Chunk.live, goodH, Chunk.good, okL, ok, sz, szL, storL, stor, renT, okT]
                        intro i hi
                        simp [hi, eqv]
                      · simp [slot, lkL, fixed, rg, renH, chEq, lookH, eqvL, eqv, eqvF, rnmL, rnm, liveN, Chunk.live, goodH, Chunk.good, okL, ok, sz, szL, storL, stor, renT, okT]
            · have f1' : IntKind.i64.wrap (8 * (7 - (k : Int))) = ((8 * (7 - k) : Nat) : Int) := by rw [wrap64 (by omega) (by omega)]; omega
              have f2 : IntKind.i64.wrap ((7 - (k : Int)) - 1) = 7 - ((k + 1 : Nat) : Int) := by rw [wrap64 (by omega) (by omega)]; omega
              have f3 : (decide ((7 - (k : Int)) ≥ 0)) = true := by simp; omega
              have f4 : IntKind.u64.wrap ((8 * (7 - k) : Nat) : Int) = ((8 * (7 - k) : Nat) : Int) := Go.Sx.wrap_small (k := .u64) rfl (by omega) (by rw [show IntKind.u64.bits = 64 from rfl]; omega)
              have f5 := shr64 G (8 * (7 - k)) (by omega)
              simp -implicitDefEqProofs (maxSteps := 1000000) (disch := omega) only [↓vcB, ↓gd, ↓opP, ↓qv, ↓ef, ↓bslS, ↓stS, ↓mkS, ↓mupS, ↓appS, ↓s2bS, ↓resS, evB, Sx.look, slot, ↓lkL, putS, putO, argsL, ↓reduceIte, ofV, of1, lookH, putH, List.length_cons, List.length_nil, List.length_append, List.replicate, List.append, List.cons_append, List.nil_append, List.append_assoc, List.map_cons, List.map_nil, convS, fldA, nthT, idxA, idxS, fldS, oslN, bnd, slS, unS, valI, lenS, lookS, takeC, parts, asRow, single, rdF, Ent.row, ldS, sz, szL, wrF, bldF, plT, bldS, srcS, nilS, nilEq, binS2, structS, eqL, eqF, binS, arrS, isI, tupS, stor, storL, Value.oneCell', minS, maxS, capS, true_and, and_true, Nat.reduceAdd, Nat.reduceSub, Nat.reduceMul, Nat.reduceLT, Nat.reduceLeDiff, Nat.reduceEqDiff, Nat.reduceBEq, Int.reduceToNat, Int.reduceNeg, Nat.zero_add, Nat.add_zero, Nat.sub_self, Nat.sub_zero, Nat.zero_mul, Nat.mul_one, Nat.zero_le, if_true, if_false, reduceIte, stays, inL, same1, qn, ldN, convN, lenN, List.mem_cons, List.not_mem_nil, Option.map_some, Option.map_none, cond_true, cond_false, Sx.imp_true, Sx.imp_false, implies_true, Int.reduceEq, Int.reduceNe, Int.reduceLE, Int.reduceLT, decide_true, decide_false, List.zipIdx_cons, List.zipIdx_nil, or_false, false_or, forall_eq_or_imp, forall_eq, ne_eq, reduceCtorEq, not_false_eq_true, Bool.false_eq_true, Bool.true_eq_false, Bool.not_true, Bool.not_false, notInt, numB, tabB, Array.reduceGetElem?, pl23, f1', f2, f3, f4, f5, Int.toNat_natCast]
              and_intros <;> try omega
              refine into_mk [some 0, some 1, some 2, some 3, some 6] [(2, .ptr 1 0), (3, .ptr 2 0), (6, .ptr 3 0), (7, .osl 4 0 0 1 (len + 1 + zW len + (k + 1))), (8, .int .u64 (nat G)), (9, .int .i64 (7 - (k + 1 : Nat)))] [.row false m 1 fun i => .int .u8 (nat (B i)), .cells true [.fam 32 1 fun _ => .int .u8 0], .cells true [.fam 64 1 fun i => .int .u32 (nat (rootK i))], .cells true [.int .u32 (nat (iv 0)), .int .u32 (nat (iv 1)), .int .u32 (nat (iv 2)), .int .u32 (nat (iv 3)), .int .u32 (nat (iv 4)), .int .u32 (nat (iv 5)), .int .u32 (nat (iv 6)), .int .u32 (nat (iv 7))], .row true (len + 1 + zW len + (k + 1)) 1 fun i => .int .u8 (nat (padX len G (fun i => B (e + i)) i))] ?_ ?_ ?_ ?_ ?_ ?_ ?_ ?_
              · simp [slot, lkL, fixed, rg, renH, chEq, lookH, eqvL, eqv, eqvF, rnmL, rnm, liveN, Chunk.live, goodH, Chunk.good, okL, ok, sz, szL, storL, stor, renT, okT]
              · simp [slot, lkL, fixed, rg, renH, chEq, lookH, eqvL, eqv, eqvF, rnmL, rnm, liveN, Chunk.live, goodH, Chunk.good, okL, ok, sz, szL, storL, stor, renT, okT]
              · simp [slot, lkL, fixed, rg, renH, chEq, lookH, eqvL, eqv, eqvF, rnmL, rnm, liveN, Chunk.live, goodH, Chunk.good, okL, ok, sz, szL, storL, stor, renT, okT, iv, ivL, nat]
                refine ⟨by omega, fun i hi => ?_⟩
                by_cases h : i < len + 1 + zW len + k
                · simp [h, eqv]
                · have h2 : i = len + 1 + zW len + k := by omega
                  subst h2
                  simp [padX, eqv, Sx.look, nat, show ¬ len + 1 + zW len + k < len + 1 + zW len by omega]
              · simp [slot, lkL, fixed, rg, renH, chEq, lookH, eqvL, eqv, eqvF, rnmL, rnm, liveN, Chunk.live, goodH, Chunk.good, okL, ok, sz, szL, storL, stor, renT, okT]
              · simp [slot, lkL, fixed, rg, renH, chEq, lookH, eqvL, eqv, eqvF, rnmL, rnm, liveN, Chunk.live, goodH, Chunk.good, okL, ok, sz, szL, storL, stor, renT, okT]
              · simp [slot, lkL, fixed, rg, renH, chEq, lookH, eqvL, eqv, eqvF, rnmL, rnm, liveN, Chunk.live, goodH, Chunk.good, okL, ok, sz, szL, storL, stor, renT, okT]
                try omega
              · simp [slot, lkL, fixed, rg, renH, chEq, lookH, eqvL, eqv, eqvF, rnmL, rnm, liveN, Chunk.live, goodH, Chunk.good, okL, ok, sz, szL, storL, stor, renT, okT]
              · intro j
                exact ⟨k' - 1, by omega, k + 1, j, by omega, rfl⟩

theorem c23 (m d e len : Nat) (B : Nat → BitVec 8) (f : Nat → SV) (hf : ∀ i, i < m → f i = .int .u8 (nat (B i))) (hm : e + len ≤ m) (hl : len ≤ 70368744177664) {h : List Chunk} {nm : Nat} (wr : Bool) (hh : lookH h nm = .row wr m 1 f) (hnm : nm < h.length) (K : Tok → SV → List Chunk → Prop)
    (hK : K .mk (.fam 32 1 fun i => .int .u8 (nat (dig (blk iv (padX len (BitVec.ofNat 64 len * 8#64) fun i => B (e + i)) ((len + 1 + zW len + 8) / 64)) i))) h) : callP Try.prog 23 [.osl nm d e 1 len] h K := by
  refine callP_frame (argsL := [.osl 0 d e 1 len]) (KL := fun _ v h' => v = .fam 32 1 (fun i => .int .u8 (nat (dig (blk iv (padX len (BitVec.ofNat 64 len * 8#64) fun i => B (e + i)) ((len + 1 + zW len + 8) / 64)) i))) ∧ h' = [.row false m 1 fun i => .int .u8 (nat (B i))]) [nm] (c23l m d e len B hm hl _ ⟨rfl, rfl⟩) ?_ ?_ ?_ ?_ ?_ ?_
  · simp
  · simp only [has, hh, chEq, and_true]
    exact ⟨hnm, by simp, trivial, trivial, fun i hi => by rw [hf i hi]; simp [rnm, eqv]⟩
  · simp [slot, lkL, fixed, rg, renH, chEq, lookH, eqvL, eqv, eqvF, rnmL, rnm, liveN, Chunk.live, goodH, Chunk.good, okL, ok, sz, szL, storL, stor, renT, okT, has, upG, up, nth, roOk, keepsLive, Chunk.wr, lay, rnmC, putH]
  · simp [slot, lkL, fixed, rg, renH, chEq, lookH, eqvL, eqv, eqvF, rnmL, rnm, liveN, Chunk.live, goodH, Chunk.good, okL, ok, sz, szL, storL, stor, renT, okT, has, upG, up, nth, roOk, keepsLive, Chunk.wr, lay, rnmC, putH]
  · simp [slot, lkL, fixed, rg, renH, chEq, lookH, eqvL, eqv, eqvF, rnmL, rnm, liveN, Chunk.live, goodH, Chunk.good, okL, ok, sz, szL, storL, stor, renT, okT, has, upG, up, nth, roOk, keepsLive, Chunk.wr, lay, rnmC, putH]
  · rintro v h' ⟨rfl, rfl⟩
    refine ⟨by simp [slot, lkL, fixed, rg, renH, chEq, lookH, eqvL, eqv, eqvF, rnmL, rnm, liveN, Chunk.live, goodH, Chunk.good, okL, ok, sz, szL, storL, stor, renT, okT, has, upG, up, nth, roOk, keepsLive, Chunk.wr, lay, rnmC, putH], by simp [slot, lkL, fixed, rg, renH, chEq, lookH, eqvL, eqv, eqvF, rnmL, rnm, liveN, Chunk.live, goodH, Chunk.good, okL, ok, sz, szL, storL, stor, renT, okT, has, upG, up, nth, roOk, keepsLive, Chunk.wr, lay, rnmC, putH], ?_⟩
    simpa [rnm, lay, Chunk.wr] using hK
end Go.Proofs.Ytbjelfgclhmedaa
