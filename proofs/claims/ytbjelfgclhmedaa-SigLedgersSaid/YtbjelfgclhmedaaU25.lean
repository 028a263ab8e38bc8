/- Contracts of functions that the laws reach, by the symbolic executor of the texts Sxa to Sxt. No condition. -/
import Derived.Test.YtbjelfgclhmedaaU17A
import Derived.Test.YtbjelfgclhmedaaSxv
set_option linter.all false
set_option maxRecDepth 40000
namespace Go.Proofs.Ytbjelfgclhmedaa
open Go Go.Sx

/-- Nothing written. -/
theorem c17e (w : Nat → BitVec 32) (cnt n : Nat) (L : Nat → BitVec 8) (a : Option Addr) (cp : Nat) (hn : n < 64) (hc : cnt < 9223372036854775808) (K : Tok → SV → List Chunk → Prop)
    (hK : K .mk (.tup []) [.cells true [.int .u32 (nat (w 0)), .int .u32 (nat (w 1)), .int .u32 (nat (w 2)), .int .u32 (nat (w 3)), .int .u32 (nat (w 4)), .int .u32 (nat (w 5)), .int .u32 (nat (w 6)), .int .u32 (nat (w 7)), .osl 2 0 0 1 n, .int .i64 (cnt : Nat)], .none, .row true n 1 fun i => .int .u8 (nat (L i))]) :
    callP Try.prog 17 [.ptr 0 0, .v (.slice a 0 cp)] [.cells true [.int .u32 (nat (w 0)), .int .u32 (nat (w 1)), .int .u32 (nat (w 2)), .int .u32 (nat (w 3)), .int .u32 (nat (w 4)), .int .u32 (nat (w 5)), .int .u32 (nat (w 6)), .int .u32 (nat (w 7)), .osl 1 0 0 1 n, .int .i64 (cnt : Nat)], .row true n 1 (fun i => .int .u8 (nat (L i)))] K := by
  refine callP_of_code tabOk Try.func17 (by kernel_rfl) rfl (Nat.le_of_ble_eq_true rfl) (codeP_of_vc (pl := pl17) tabOk follows_mixed (by kernel_rfl) ?_)
  rw [Try.ntmps17]
  have a0 : IntKind.i64.wrap ((cnt : Int) + ((0 : Nat) : Int)) = (cnt : Int) := by rw [wrap64 (by omega) (by omega)]; omega
  have g0 : decide ((n : Int) ≥ 64) = false := by simp; omega
  simp -implicitDefEqProofs (maxSteps := 1000000) (disch := omega) only [↓vcB, ↓gd, ↓opP, ↓qv, ↓ef, ↓bslS, ↓stS, ↓mkS, ↓mupS, ↓appS, ↓s2bS, ↓resS, evB, Sx.look, slot, ↓lkL, putS, putO, argsL, ↓reduceIte, ofV, of1, lookH, putH, List.length_cons, List.length_nil, List.length_append, List.replicate, List.append, List.cons_append, List.nil_append, List.append_assoc, List.map_cons, List.map_nil, convS, fldA, nthT, idxA, idxS, fldS, oslN, bnd, slS, unS, valI, lenS, lookS, takeC, parts, asRow, single, rdF, Ent.row, ldS, sz, szL, wrF, bldF, plT, bldS, srcS, nilS, nilEq, binS2, structS, eqL, eqF, binS, arrS, isI, tupS, stor, storL, Value.oneCell', minS, maxS, capS, true_and, and_true, Nat.reduceAdd, Nat.reduceSub, Nat.reduceMul, Nat.reduceLT, Nat.reduceLeDiff, Nat.reduceEqDiff, Nat.reduceBEq, Int.reduceToNat, Int.reduceNeg, Nat.zero_add, Nat.add_zero, Nat.sub_self, Nat.sub_zero, Nat.zero_mul, Nat.mul_one, Nat.zero_le, if_true, if_false, reduceIte, stays, inL, same1, qn, ldN, convN, lenN, List.mem_cons, List.not_mem_nil, Option.map_some, Option.map_none, cond_true, cond_false, Sx.imp_true, Sx.imp_false, implies_true, Int.reduceEq, Int.reduceNe, Int.reduceLE, Int.reduceLT, decide_true, decide_false, List.zipIdx_cons, List.zipIdx_nil, or_false, false_or, forall_eq_or_imp, forall_eq, ne_eq, reduceCtorEq, not_false_eq_true, Bool.false_eq_true, Bool.true_eq_false, Bool.not_true, Bool.not_false, notInt, numB, tabB, Array.reduceGetElem?, pl17, a0, Option.isNone]
  and_intros <;> try omega
  refine codeP_rounds tabOk follows_mixed (pl := pl17) (by kernel_rfl) 1 ?_
  simp -implicitDefEqProofs (maxSteps := 1000000) (disch := omega) only [↓vcB, ↓gd, ↓opP, ↓qv, ↓ef, ↓bslS, ↓stS, ↓mkS, ↓mupS, ↓appS, ↓s2bS, ↓resS, evB, Sx.look, slot, ↓lkL, putS, putO, argsL, ↓reduceIte, ofV, of1, lookH, putH, List.length_cons, List.length_nil, List.length_append, List.replicate, List.append, List.cons_append, List.nil_append, List.append_assoc, List.map_cons, List.map_nil, convS, fldA, nthT, idxA, idxS, fldS, oslN, bnd, slS, unS, valI, lenS, lookS, takeC, parts, asRow, single, rdF, Ent.row, ldS, sz, szL, wrF, bldF, plT, bldS, srcS, nilS, nilEq, binS2, structS, eqL, eqF, binS, arrS, isI, tupS, stor, storL, Value.oneCell', minS, maxS, capS, true_and, and_true, Nat.reduceAdd, Nat.reduceSub, Nat.reduceMul, Nat.reduceLT, Nat.reduceLeDiff, Nat.reduceEqDiff, Nat.reduceBEq, Int.reduceToNat, Int.reduceNeg, Nat.zero_add, Nat.add_zero, Nat.sub_self, Nat.sub_zero, Nat.zero_mul, Nat.mul_one, Nat.zero_le, if_true, if_false, reduceIte, stays, inL, same1, qn, ldN, convN, lenN, List.mem_cons, List.not_mem_nil, Option.map_some, Option.map_none, cond_true, cond_false, Sx.imp_true, Sx.imp_false, implies_true, Int.reduceEq, Int.reduceNe, Int.reduceLE, Int.reduceLT, decide_true, decide_false, List.zipIdx_cons, List.zipIdx_nil, or_false, false_or, forall_eq_or_imp, forall_eq, ne_eq, reduceCtorEq, not_false_eq_true, Bool.false_eq_true, Bool.true_eq_false, Bool.not_true, Bool.not_false, notInt, numB, tabB, Array.reduceGetElem?, pl17, a0, g0, res17]
  refine ⟨⟨by omega, by omega, by omega⟩, ?_⟩
  refine intoR_mk [some 0, some 1, some 3] (.tup []) [.cells true [.int .u32 (nat (w 0)), .int .u32 (nat (w 1)), .int .u32 (nat (w 2)), .int .u32 (nat (w 3)), .int .u32 (nat (w 4)), .int .u32 (nat (w 5)), .int .u32 (nat (w 6)), .int .u32 (nat (w 7)), .osl 2 0 0 1 n, .int .i64 (cnt : Nat)], .none, .row true n 1 fun i => .int .u8 (nat (L i))] ?_ ?_ ?_ ?_ ?_ ?_ ?_ hK
  · simp [slot, lkL, fixed, rg, renH, chEq, lookH, eqvL, eqv, eqvF, rnmL, rnm, liveN, Chunk.live, goodH, Chunk.good, okL, ok, sz, szL, storL, stor, renT, okT]
  · simp [slot, lkL, fixed, rg, renH, chEq, lookH, eqvL, eqv, eqvF, rnmL, rnm, liveN, Chunk.live, goodH, Chunk.good, okL, ok, sz, szL, storL, stor, renT, okT]
  · simp [slot, lkL, fixed, rg, renH, chEq, lookH, eqvL, eqv, eqvF, rnmL, rnm, liveN, Chunk.live, goodH, Chunk.good, okL, ok, sz, szL, storL, stor, renT, okT]
    intro i hi
    simp [hi, eqv]
  · simp [slot, lkL, fixed, rg, renH, chEq, lookH, eqvL, eqv, eqvF, rnmL, rnm, liveN, Chunk.live, goodH, Chunk.good, okL, ok, sz, szL, storL, stor, renT, okT]
  · simp [slot, lkL, fixed, rg, renH, chEq, lookH, eqvL, eqv, eqvF, rnmL, rnm, liveN, Chunk.live, goodH, Chunk.good, okL, ok, sz, szL, storL, stor, renT, okT]
  · simp [slot, lkL, fixed, rg, renH, chEq, lookH, eqvL, eqv, eqvF, rnmL, rnm, liveN, Chunk.live, goodH, Chunk.good, okL, ok, sz, szL, storL, stor, renT, okT]
  · simp [slot, lkL, fixed, rg, renH, chEq, lookH, eqvL, eqv, eqvF, rnmL, rnm, liveN, Chunk.live, goodH, Chunk.good, okL, ok, sz, szL, storL, stor, renT, okT]

theorem c18l (w : Nat → BitVec 32) (cnt n : Nat) (L : Nat → BitVec 8) (K : Tok → SV → List Chunk → Prop)
    (hK : K .mk (.int .i64 (cnt : Nat)) [.cells true [.int .u32 (nat (w 0)), .int .u32 (nat (w 1)), .int .u32 (nat (w 2)), .int .u32 (nat (w 3)), .int .u32 (nat (w 4)), .int .u32 (nat (w 5)), .int .u32 (nat (w 6)), .int .u32 (nat (w 7)), .osl 1 0 0 1 n, .int .i64 (cnt : Nat)], .row true n 1 fun i => .int .u8 (nat (L i))]) :
    callP Try.prog 18 [.ptr 0 0] [.cells true [.int .u32 (nat (w 0)), .int .u32 (nat (w 1)), .int .u32 (nat (w 2)), .int .u32 (nat (w 3)), .int .u32 (nat (w 4)), .int .u32 (nat (w 5)), .int .u32 (nat (w 6)), .int .u32 (nat (w 7)), .osl 1 0 0 1 n, .int .i64 (cnt : Nat)], .row true n 1 (fun i => .int .u8 (nat (L i)))] K := by
  refine callP_of_code tabOk Try.func18 (by kernel_rfl) rfl (Nat.le_of_ble_eq_true rfl) (codeP_of_vc (pl := np) tabOk follows_mixed (by kernel_rfl) ?_)
  rw [Try.ntmps18]
  simp -implicitDefEqProofs (maxSteps := 1000000) (disch := omega) only [↓vcB, ↓gd, ↓opP, ↓qv, ↓ef, ↓bslS, ↓stS, ↓mkS, ↓mupS, ↓appS, ↓s2bS, ↓resS, evB, Sx.look, slot, ↓lkL, putS, putO, argsL, ↓reduceIte, ofV, of1, lookH, putH, List.length_cons, List.length_nil, List.length_append, List.replicate, List.append, List.cons_append, List.nil_append, List.append_assoc, List.map_cons, List.map_nil, convS, fldA, nthT, idxA, idxS, fldS, oslN, bnd, slS, unS, valI, lenS, lookS, takeC, parts, asRow, single, rdF, Ent.row, ldS, sz, szL, wrF, bldF, plT, bldS, srcS, nilS, nilEq, binS2, structS, eqL, eqF, binS, arrS, isI, tupS, stor, storL, Value.oneCell', minS, maxS, capS, true_and, and_true, Nat.reduceAdd, Nat.reduceSub, Nat.reduceMul, Nat.reduceLT, Nat.reduceLeDiff, Nat.reduceEqDiff, Nat.reduceBEq, Int.reduceToNat, Int.reduceNeg, Nat.zero_add, Nat.add_zero, Nat.sub_self, Nat.sub_zero, Nat.zero_mul, Nat.mul_one, Nat.zero_le, if_true, if_false, reduceIte, stays, inL, same1, qn, ldN, convN, lenN, List.mem_cons, List.not_mem_nil, Option.map_some, Option.map_none, cond_true, cond_false, Sx.imp_true, Sx.imp_false, implies_true, Int.reduceEq, Int.reduceNe, Int.reduceLE, Int.reduceLT, decide_true, decide_false, List.zipIdx_cons, List.zipIdx_nil, or_false, false_or, forall_eq_or_imp, forall_eq, ne_eq, reduceCtorEq, not_false_eq_true, Bool.false_eq_true, Bool.true_eq_false, Bool.not_true, Bool.not_false, notInt, numB, tabB, Array.reduceGetElem?, res18, Option.isNone]
  exact intoR_refl (Nat.le_refl _) hK

/-- What a hash holds to which so many bytes have come. -/
theorem cat0 (B : Nat → BitVec 8) : cat 0 (fun _ => 0) B = B := by
  funext i
  simp [cat]
theorem blk_write (S len : Nat) (A B : Nat → BitVec 8) :
    blk (blk iv A (S / 64)) (cat (S - 64 * (S / 64)) (fun i => A (64 * (S / 64) + i)) B) ((S - 64 * (S / 64) + len) / 64) = blk iv (cat S A B) ((S + len) / 64) := by
  have h1 : (S + len) / 64 = S / 64 + (S - 64 * (S / 64) + len) / 64 := by omega
  rw [h1, blk_add, blk_congr iv (T := cat S A B) (T' := A) (S / 64) fun i hi => by simp only [cat, show i < S by omega, if_true]]
  congr 1
  funext i
  simp only [cat]
  by_cases h : i < S - 64 * (S / 64)
  · simp only [h, show 64 * (S / 64) + i < S by omega, if_true]
  · simp only [h, show ¬ 64 * (S / 64) + i < S by omega, if_false]
    congr 1
    omega
theorem left_write (S len : Nat) (A B : Nat → BitVec 8) (i : Nat) :
    cat (S - 64 * (S / 64)) (fun i => A (64 * (S / 64) + i)) B (64 * ((S - 64 * (S / 64) + len) / 64) + i) = cat S A B (64 * ((S + len) / 64) + i) := by
  have h1 : (S + len) / 64 = S / 64 + (S - 64 * (S / 64) + len) / 64 := by omega
  simp only [cat]
  generalize (S - 64 * (S / 64) + len) / 64 = q at h1
  by_cases h : 64 * q + i < S - 64 * (S / 64)
  · simp only [h, show 64 * ((S + len) / 64) + i < S by omega, if_true]
    congr 1
    omega
  · simp only [h, show ¬ 64 * ((S + len) / 64) + i < S by omega, if_false]
    congr 1
    omega
theorem sum_of (S : Nat) (A : Nat → BitVec 8) : dig (blk (blk iv A (S / 64)) (padF (S - 64 * (S / 64)) (BitVec.ofNat 64 S) fun i => A (64 * (S / 64) + i)) ((S - 64 * (S / 64) + 1 + zs (S - 64 * (S / 64)) + 8) / 64)) = shaD S A := by
  simp only [shaD, cat0]

/-- Bytes written, in the words of all that has come. -/
theorem c17s (S len m : Nat) (A B : Nat → BitVec 8) (hm : len ≤ m) (hS : S + len ≤ 1000000) (K : Tok → SV → List Chunk → Prop)
    (hK : K .mk (.tup []) [.cells true [.int .u32 (nat (blk iv (cat S A B) ((S + len) / 64) 0)), .int .u32 (nat (blk iv (cat S A B) ((S + len) / 64) 1)), .int .u32 (nat (blk iv (cat S A B) ((S + len) / 64) 2)), .int .u32 (nat (blk iv (cat S A B) ((S + len) / 64) 3)), .int .u32 (nat (blk iv (cat S A B) ((S + len) / 64) 4)), .int .u32 (nat (blk iv (cat S A B) ((S + len) / 64) 5)), .int .u32 (nat (blk iv (cat S A B) ((S + len) / 64) 6)), .int .u32 (nat (blk iv (cat S A B) ((S + len) / 64) 7)), .osl 3 0 0 1 (S + len - 64 * ((S + len) / 64)), .int .i64 (S + len : Nat)], .none, .row false m 1 (fun i => .int .u8 (nat (B i))),
      .row true (S + len - 64 * ((S + len) / 64)) 1 fun i => .int .u8 (nat (cat S A B (64 * ((S + len) / 64) + i)))]) :
    callP Try.prog 17 [.ptr 0 0, .osl 2 0 0 1 len] [.cells true [.int .u32 (nat (blk iv A (S / 64) 0)), .int .u32 (nat (blk iv A (S / 64) 1)), .int .u32 (nat (blk iv A (S / 64) 2)), .int .u32 (nat (blk iv A (S / 64) 3)), .int .u32 (nat (blk iv A (S / 64) 4)), .int .u32 (nat (blk iv A (S / 64) 5)), .int .u32 (nat (blk iv A (S / 64) 6)), .int .u32 (nat (blk iv A (S / 64) 7)), .osl 1 0 0 1 (S - 64 * (S / 64)), .int .i64 (S : Nat)], .row true (S - 64 * (S / 64)) 1 (fun i => .int .u8 (nat (A (64 * (S / 64) + i)))), .row false m 1 fun i => .int .u8 (nat (B i))] K := by
  refine c17l (blk iv A (S / 64)) S (S - 64 * (S / 64)) 0 0 len m (fun i => A (64 * (S / 64) + i)) B (by omega) (by omega) (by omega) K ?_
  rw [show (fun i => B (0 + i)) = B from funext fun i => by rw [Nat.zero_add], blk_write, show S - 64 * (S / 64) + len - 64 * ((S - 64 * (S / 64) + len) / 64) = S + len - 64 * ((S + len) / 64) by omega,
    show (fun i => SV.int IntKind.u8 (nat (cat (S - 64 * (S / 64)) (fun i => A (64 * (S / 64) + i)) B (64 * ((S - 64 * (S / 64) + len) / 64) + i)))) = fun i => SV.int IntKind.u8 (nat (cat S A B (64 * ((S + len) / 64) + i))) from funext fun i => by rw [left_write]]
  exact hK
/-- The sum of all that has come. -/
theorem c19s (S : Nat) (A : Nat → BitVec 8) (F : Nat → SV) (hF : (fun i => SV.int .u8 (nat (shaD S A i))) = F) (hS : S ≤ 1000000) (K : Tok → SV → List Chunk → Prop)
    (hK : K .mk (.fam 32 1 F) [.cells true [.int .u32 (nat (blk iv A (S / 64) 0)), .int .u32 (nat (blk iv A (S / 64) 1)), .int .u32 (nat (blk iv A (S / 64) 2)), .int .u32 (nat (blk iv A (S / 64) 3)), .int .u32 (nat (blk iv A (S / 64) 4)), .int .u32 (nat (blk iv A (S / 64) 5)), .int .u32 (nat (blk iv A (S / 64) 6)), .int .u32 (nat (blk iv A (S / 64) 7)), .osl 1 0 0 1 (S - 64 * (S / 64)), .int .i64 (S : Nat)], .row true (S - 64 * (S / 64)) 1 (fun i => .int .u8 (nat (A (64 * (S / 64) + i))))]) :
    callP Try.prog 19 [.ptr 0 0] [.cells true [.int .u32 (nat (blk iv A (S / 64) 0)), .int .u32 (nat (blk iv A (S / 64) 1)), .int .u32 (nat (blk iv A (S / 64) 2)), .int .u32 (nat (blk iv A (S / 64) 3)), .int .u32 (nat (blk iv A (S / 64) 4)), .int .u32 (nat (blk iv A (S / 64) 5)), .int .u32 (nat (blk iv A (S / 64) 6)), .int .u32 (nat (blk iv A (S / 64) 7)), .osl 1 0 0 1 (S - 64 * (S / 64)), .int .i64 (S : Nat)], .row true (S - 64 * (S / 64)) 1 (fun i => .int .u8 (nat (A (64 * (S / 64) + i))))] K := by
  refine c19l (blk iv A (S / 64)) S (S - 64 * (S / 64)) (fun i => A (64 * (S / 64) + i)) (by omega) (by omega) K ?_
  rw [sum_of, hF]
  exact hK
end Go.Proofs.Ytbjelfgclhmedaa
