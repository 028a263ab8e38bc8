/- Contracts of functions that the laws reach, by the symbolic executor of the texts Sxa to Sxt. No condition. -/
import Derived.Test.YtbjelfgclhmedaaU25
import Derived.Test.YtbjelfgclhmedaaPc
set_option linter.all false
set_option maxRecDepth 40000
namespace Go.Proofs.Ytbjelfgclhmedaa
open Go Go.Sx

set_option maxHeartbeats 4000000 in
theorem c17a (w : Nat → BitVec 32) (cnt n len : Nat) (L B : Nat → BitVec 8) (hc : cnt + len < 9223372036854775808) (hl : n + len ≤ 70368744177664) (K : Tok → SV → List Chunk → Prop)
    (hK : K .mk (.tup []) [.cells true [.int .u32 (nat (blk w (cat n L B) ((n + len) / 64) 0)), .int .u32 (nat (blk w (cat n L B) ((n + len) / 64) 1)), .int .u32 (nat (blk w (cat n L B) ((n + len) / 64) 2)), .int .u32 (nat (blk w (cat n L B) ((n + len) / 64) 3)), .int .u32 (nat (blk w (cat n L B) ((n + len) / 64) 4)), .int .u32 (nat (blk w (cat n L B) ((n + len) / 64) 5)), .int .u32 (nat (blk w (cat n L B) ((n + len) / 64) 6)), .int .u32 (nat (blk w (cat n L B) ((n + len) / 64) 7)), .osl 3 0 0 1 (n + len - 64 * ((n + len) / 64)), .int .i64 (cnt + len : Nat)], .none, .cells false [.fam len 1 fun i => .int .u8 (nat (B i))],
      .row true (n + len - 64 * ((n + len) / 64)) 1 fun i => .int .u8 (nat (cat n L B (64 * ((n + len) / 64) + i)))]) :
    callP Try.prog 17 [.ptr 0 0, .sl 2 0 0 1 len len] [.cells true [.int .u32 (nat (w 0)), .int .u32 (nat (w 1)), .int .u32 (nat (w 2)), .int .u32 (nat (w 3)), .int .u32 (nat (w 4)), .int .u32 (nat (w 5)), .int .u32 (nat (w 6)), .int .u32 (nat (w 7)), .osl 1 0 0 1 n, .int .i64 (cnt : Nat)], .row true n 1 (fun i => .int .u8 (nat (L i))), .cells false [.fam len 1 fun i => .int .u8 (nat (B i))]] K := by
  refine callP_of_code tabOk Try.func17 (by kernel_rfl) rfl (Nat.le_of_ble_eq_true rfl) (codeP_of_vc (pl := pl17) tabOk follows_mixed (by kernel_rfl) ?_)
  rw [Try.ntmps17]
  have a0 : IntKind.i64.wrap ((cnt : Int) + (len : Int)) = ((cnt + len : Nat) : Int) := by rw [wrap64 (by omega) (by omega)]; omega
  simp -implicitDefEqProofs (maxSteps := 1000000) (disch := omega) only [↓vcB, ↓gd, ↓opP, ↓qv, ↓ef, ↓bslS, ↓stS, ↓mkS, ↓mupS, ↓appS, ↓s2bS, ↓resS, evB, Sx.look, slot, ↓lkL, putS, putO, argsL, ↓reduceIte, ofV, of1, lookH, putH, List.length_cons, List.length_nil, List.length_append, List.replicate, List.append, List.cons_append, List.nil_append, List.append_assoc, List.map_cons, List.map_nil, convS, fldA, nthT, idxA, idxS, fldS, oslN, bnd, slS, unS, valI, lenS, lookS, takeC, parts, asRow, single, rdF, Ent.row, ldS, sz, szL, wrF, bldF, plT, bldS, srcS, nilS, nilEq, binS2, structS, eqL, eqF, binS, arrS, isI, tupS, stor, storL, Value.oneCell', minS, maxS, capS, true_and, and_true, Nat.reduceAdd, Nat.reduceSub, Nat.reduceMul, Nat.reduceLT, Nat.reduceLeDiff, Nat.reduceEqDiff, Nat.reduceBEq, Int.reduceToNat, Int.reduceNeg, Nat.zero_add, Nat.add_zero, Nat.sub_self, Nat.sub_zero, Nat.zero_mul, Nat.mul_one, Nat.zero_le, if_true, if_false, reduceIte, stays, inL, same1, qn, ldN, convN, lenN, List.mem_cons, List.not_mem_nil, Option.map_some, Option.map_none, cond_true, cond_false, Sx.imp_true, Sx.imp_false, implies_true, Int.reduceEq, Int.reduceNe, Int.reduceLE, Int.reduceLT, decide_true, decide_false, List.zipIdx_cons, List.zipIdx_nil, or_false, false_or, forall_eq_or_imp, forall_eq, ne_eq, reduceCtorEq, not_false_eq_true, Bool.false_eq_true, Bool.true_eq_false, Bool.not_true, Bool.not_false, notInt, numB, tabB, Array.reduceGetElem?, pl17, a0, Option.isNone]
  refine ⟨⟨by omega, by omega, by omega⟩, ?_⟩
  obtain ⟨T, hT⟩ : ∃ T, T = cat n L B := ⟨_, rfl⟩
  rw [← hT] at hK
  refine codeP_loop (pl := pl17) tabOk follows_mixed (by kernel_rfl) (fun m' s => ∃ (k d' : Nat) (j : Nat → Value), k + m' = (n + len) / 64 ∧ s = ⟨⟨55, [(0, .ptr 0 0)], j⟩, [.cells true [.int .u32 (nat (blk w T k 0)), .int .u32 (nat (blk w T k 1)), .int .u32 (nat (blk w T k 2)), .int .u32 (nat (blk w T k 3)), .int .u32 (nat (blk w T k 4)), .int .u32 (nat (blk w T k 5)), .int .u32 (nat (blk w T k 6)), .int .u32 (nat (blk w T k 7)), .osl 3 d' (64 * k) 1 (n + len - 64 * k), .int .i64 (cnt + len : Nat)], .none, .cells false [.fam len 1 fun i => .int .u8 (nat (B i))], .row true (n + len) 1 fun i => .int .u8 (nat (T i))], []⟩) ?_ ?_
  · refine into_mk [some 0, some 1, some 2, some 3] [(0, .ptr 0 0)] [.cells true [.int .u32 (nat (blk w T 0 0)), .int .u32 (nat (blk w T 0 1)), .int .u32 (nat (blk w T 0 2)), .int .u32 (nat (blk w T 0 3)), .int .u32 (nat (blk w T 0 4)), .int .u32 (nat (blk w T 0 5)), .int .u32 (nat (blk w T 0 6)), .int .u32 (nat (blk w T 0 7)), .osl 3 0 (64 * 0) 1 (n + len - 64 * 0), .int .i64 (cnt + len : Nat)], .none, .cells false [.fam len 1 fun i => .int .u8 (nat (B i))], .row true (n + len) 1 fun i => .int .u8 (nat (T i))] ?_ ?_ ?_ ?_ ?_ ?_ ?_ ?_
    · simp [slot, lkL, fixed, rg, renH, chEq, lookH, eqvL, eqv, eqvF, rnmL, rnm, liveN, Chunk.live, goodH, Chunk.good, okL, ok, sz, szL, storL, stor, renT, okT]
    · simp [slot, lkL, fixed, rg, renH, chEq, lookH, eqvL, eqv, eqvF, rnmL, rnm, liveN, Chunk.live, goodH, Chunk.good, okL, ok, sz, szL, storL, stor, renT, okT]
    · simp [slot, lkL, fixed, rg, renH, chEq, lookH, eqvL, eqv, eqvF, rnmL, rnm, liveN, Chunk.live, goodH, Chunk.good, okL, ok, sz, szL, storL, stor, renT, okT, blk]
      intro i hi
      subst hT
      by_cases h : i < n <;> simp [h, cat, eqv]
    · simp [slot, lkL, fixed, rg, renH, chEq, lookH, eqvL, eqv, eqvF, rnmL, rnm, liveN, Chunk.live, goodH, Chunk.good, okL, ok, sz, szL, storL, stor, renT, okT]
    · simp [slot, lkL, fixed, rg, renH, chEq, lookH, eqvL, eqv, eqvF, rnmL, rnm, liveN, Chunk.live, goodH, Chunk.good, okL, ok, sz, szL, storL, stor, renT, okT]
    · simp [slot, lkL, fixed, rg, renH, chEq, lookH, eqvL, eqv, eqvF, rnmL, rnm, liveN, Chunk.live, goodH, Chunk.good, okL, ok, sz, szL, storL, stor, renT, okT]
    · simp [slot, lkL, fixed, rg, renH, chEq, lookH, eqvL, eqv, eqvF, rnmL, rnm, liveN, Chunk.live, goodH, Chunk.good, okL, ok, sz, szL, storL, stor, renT, okT]
    · intro j
      exact ⟨(n + len) / 64, 0, 0, j, by omega, rfl⟩
  · rintro m' s ⟨k, d', j, hk, rfl⟩
    have hk2 : 64 * k ≤ n + len := by omega
    simp -implicitDefEqProofs (maxSteps := 1000000) (disch := omega) only [↓vcB, ↓gd, ↓opP, ↓qv, ↓ef, ↓bslS, ↓stS, ↓mkS, ↓mupS, ↓appS, ↓s2bS, ↓resS, evB, Sx.look, slot, ↓lkL, putS, putO, argsL, ↓reduceIte, ofV, of1, lookH, putH, List.length_cons, List.length_nil, List.length_append, List.replicate, List.append, List.cons_append, List.nil_append, List.append_assoc, List.map_cons, List.map_nil, convS, fldA, nthT, idxA, idxS, fldS, oslN, bnd, slS, unS, valI, lenS, lookS, takeC, parts, asRow, single, rdF, Ent.row, ldS, sz, szL, wrF, bldF, plT, bldS, srcS, nilS, nilEq, binS2, structS, eqL, eqF, binS, arrS, isI, tupS, stor, storL, Value.oneCell', minS, maxS, capS, true_and, and_true, Nat.reduceAdd, Nat.reduceSub, Nat.reduceMul, Nat.reduceLT, Nat.reduceLeDiff, Nat.reduceEqDiff, Nat.reduceBEq, Int.reduceToNat, Int.reduceNeg, Nat.zero_add, Nat.add_zero, Nat.sub_self, Nat.sub_zero, Nat.zero_mul, Nat.mul_one, Nat.zero_le, if_true, if_false, reduceIte, stays, inL, same1, qn, ldN, convN, lenN, List.mem_cons, List.not_mem_nil, Option.map_some, Option.map_none, cond_true, cond_false, Sx.imp_true, Sx.imp_false, implies_true, Int.reduceEq, Int.reduceNe, Int.reduceLE, Int.reduceLT, decide_true, decide_false, List.zipIdx_cons, List.zipIdx_nil, or_false, false_or, forall_eq_or_imp, forall_eq, ne_eq, reduceCtorEq, not_false_eq_true, Bool.false_eq_true, Bool.true_eq_false, Bool.not_true, Bool.not_false, notInt, numB, tabB, ↓Array.reduceGetElem?, pl17, res17]
    refine ⟨Sx.imp_intro fun hc' => ?_, Sx.imp_intro fun hc' => ?_⟩
    · have hk3 : 64 * k + 64 ≤ n + len := by have := of_decide_eq_true hc'; omega
      and_intros <;> try omega
      refine callP_frame (hl := [.cells true ([.int .u32 (nat (blk w T k 0)), .int .u32 (nat (blk w T k 1)), .int .u32 (nat (blk w T k 2)), .int .u32 (nat (blk w T k 3)), .int .u32 (nat (blk w T k 4)), .int .u32 (nat (blk w T k 5)), .int .u32 (nat (blk w T k 6)), .int .u32 (nat (blk w T k 7))] ++ [.osl 1 d' (64 * k) 1 (n + len - 64 * k), .int .i64 (cnt + len : Nat)]), .row false (n + len) 1 fun i => .int .u8 (nat (T i))]) (argsL := [.ptr 0 0, .osl 1 d' (64 * k) 1 64])
        (KL := fun _ v h' => v = .tup [] ∧ h' = [.cells true ([.int .u32 (nat (comp (blk w T k) (fun i => T (64 * k + i)) 0)), .int .u32 (nat (comp (blk w T k) (fun i => T (64 * k + i)) 1)), .int .u32 (nat (comp (blk w T k) (fun i => T (64 * k + i)) 2)), .int .u32 (nat (comp (blk w T k) (fun i => T (64 * k + i)) 3)), .int .u32 (nat (comp (blk w T k) (fun i => T (64 * k + i)) 4)), .int .u32 (nat (comp (blk w T k) (fun i => T (64 * k + i)) 5)), .int .u32 (nat (comp (blk w T k) (fun i => T (64 * k + i)) 6)), .int .u32 (nat (comp (blk w T k) (fun i => T (64 * k + i)) 7))] ++ [.osl 1 d' (64 * k) 1 (n + len - 64 * k), .int .i64 (cnt + len : Nat)]), .row false (n + len) 1 fun i => .int .u8 (nat (T i))]) [0, 3]
        (c54l (blk w T k) [.osl 1 d' (64 * k) 1 (n + len - 64 * k), .int .i64 (cnt + len : Nat)] d' (64 * k) (n + len) T (by omega) (by simp [okL, ok]) (by simp [storL, stor]) _ ⟨rfl, rfl⟩) ?_ ?_ ?_ ?_ ?_ ?_
      · simp
      · simp [slot, lkL, fixed, rg, renH, chEq, lookH, eqvL, eqv, eqvF, rnmL, rnm, liveN, Chunk.live, goodH, Chunk.good, okL, ok, sz, szL, storL, stor, renT, okT, has, upG, up, nth, roOk, keepsLive, Chunk.wr, lay, rnmC, putH]
      · simp [slot, lkL, fixed, rg, renH, chEq, lookH, eqvL, eqv, eqvF, rnmL, rnm, liveN, Chunk.live, goodH, Chunk.good, okL, ok, sz, szL, storL, stor, renT, okT, has, upG, up, nth, roOk, keepsLive, Chunk.wr, lay, rnmC, putH]
      · simp [slot, lkL, fixed, rg, renH, chEq, lookH, eqvL, eqv, eqvF, rnmL, rnm, liveN, Chunk.live, goodH, Chunk.good, okL, ok, sz, szL, storL, stor, renT, okT, has, upG, up, nth, roOk, keepsLive, Chunk.wr, lay, rnmC, putH]
      · simp [slot, lkL, fixed, rg, renH, chEq, lookH, eqvL, eqv, eqvF, rnmL, rnm, liveN, Chunk.live, goodH, Chunk.good, okL, ok, sz, szL, storL, stor, renT, okT, has, upG, up, nth, roOk, keepsLive, Chunk.wr, lay, rnmC, putH]
      · rintro v h' ⟨rfl, rfl⟩
        refine ⟨by simp [slot, lkL, fixed, rg, renH, chEq, lookH, eqvL, eqv, eqvF, rnmL, rnm, liveN, Chunk.live, goodH, Chunk.good, okL, ok, sz, szL, storL, stor, renT, okT, has, upG, up, nth, roOk, keepsLive, Chunk.wr, lay, rnmC, putH], by simp [slot, lkL, fixed, rg, renH, chEq, lookH, eqvL, eqv, eqvF, rnmL, rnm, liveN, Chunk.live, goodH, Chunk.good, okL, ok, sz, szL, storL, stor, renT, okT, has, upG, up, nth, roOk, keepsLive, Chunk.wr, lay, rnmC, putH], ?_⟩
        simp -implicitDefEqProofs (maxSteps := 1000000) (disch := omega) only [↓vcB, ↓gd, ↓opP, ↓qv, ↓ef, ↓bslS, ↓stS, ↓mkS, ↓mupS, ↓appS, ↓s2bS, ↓resS, evB, Sx.look, slot, ↓lkL, putS, putO, argsL, ↓reduceIte, ofV, of1, lookH, putH, List.length_cons, List.length_nil, List.length_append, List.replicate, List.append, List.cons_append, List.nil_append, List.append_assoc, List.map_cons, List.map_nil, convS, fldA, nthT, idxA, idxS, fldS, oslN, bnd, slS, unS, valI, lenS, lookS, takeC, parts, asRow, single, rdF, Ent.row, ldS, sz, szL, wrF, bldF, plT, bldS, srcS, nilS, nilEq, binS2, structS, eqL, eqF, binS, arrS, isI, tupS, stor, storL, Value.oneCell', minS, maxS, capS, true_and, and_true, Nat.reduceAdd, Nat.reduceSub, Nat.reduceMul, Nat.reduceLT, Nat.reduceLeDiff, Nat.reduceEqDiff, Nat.reduceBEq, Int.reduceToNat, Int.reduceNeg, Nat.zero_add, Nat.add_zero, Nat.sub_self, Nat.sub_zero, Nat.zero_mul, Nat.mul_one, Nat.zero_le, if_true, if_false, reduceIte, stays, inL, same1, qn, ldN, convN, lenN, List.mem_cons, List.not_mem_nil, Option.map_some, Option.map_none, cond_true, cond_false, Sx.imp_true, Sx.imp_false, implies_true, Int.reduceEq, Int.reduceNe, Int.reduceLE, Int.reduceLT, decide_true, decide_false, List.zipIdx_cons, List.zipIdx_nil, or_false, false_or, forall_eq_or_imp, forall_eq, ne_eq, reduceCtorEq, not_false_eq_true, Bool.false_eq_true, Bool.true_eq_false, Bool.not_true, Bool.not_false, notInt, numB, tabB, ↓Array.reduceGetElem?, pl17, upG, up, nth, lay, rnmC, rnm, rnmL, Chunk.wr]
        and_intros <;> try omega
        refine into_mk [some 0, some 1, some 2, some 3] [(0, .ptr 0 0)] [.cells true [.int .u32 (nat (blk w T (k + 1) 0)), .int .u32 (nat (blk w T (k + 1) 1)), .int .u32 (nat (blk w T (k + 1) 2)), .int .u32 (nat (blk w T (k + 1) 3)), .int .u32 (nat (blk w T (k + 1) 4)), .int .u32 (nat (blk w T (k + 1) 5)), .int .u32 (nat (blk w T (k + 1) 6)), .int .u32 (nat (blk w T (k + 1) 7)), .osl 3 (64 * k) (64 * (k + 1)) 1 (n + len - 64 * (k + 1)), .int .i64 (cnt + len : Nat)], .none, .cells false [.fam len 1 fun i => .int .u8 (nat (B i))], .row true (n + len) 1 fun i => .int .u8 (nat (T i))] ?_ ?_ ?_ ?_ ?_ ?_ ?_ ?_
        · simp [slot, lkL, fixed, rg, renH, chEq, lookH, eqvL, eqv, eqvF, rnmL, rnm, liveN, Chunk.live, goodH, Chunk.good, okL, ok, sz, szL, storL, stor, renT, okT]
        · simp [slot, lkL, fixed, rg, renH, chEq, lookH, eqvL, eqv, eqvF, rnmL, rnm, liveN, Chunk.live, goodH, Chunk.good, okL, ok, sz, szL, storL, stor, renT, okT]
        · simp [slot, lkL, fixed, rg, renH, chEq, lookH, eqvL, eqv, eqvF, rnmL, rnm, liveN, Chunk.live, goodH, Chunk.good, okL, ok, sz, szL, storL, stor, renT, okT, blk, Nat.mul_add]
          try omega
        · simp [slot, lkL, fixed, rg, renH, chEq, lookH, eqvL, eqv, eqvF, rnmL, rnm, liveN, Chunk.live, goodH, Chunk.good, okL, ok, sz, szL, storL, stor, renT, okT]
        · simp [slot, lkL, fixed, rg, renH, chEq, lookH, eqvL, eqv, eqvF, rnmL, rnm, liveN, Chunk.live, goodH, Chunk.good, okL, ok, sz, szL, storL, stor, renT, okT]
        · simp [slot, lkL, fixed, rg, renH, chEq, lookH, eqvL, eqv, eqvF, rnmL, rnm, liveN, Chunk.live, goodH, Chunk.good, okL, ok, sz, szL, storL, stor, renT, okT]
        · simp [slot, lkL, fixed, rg, renH, chEq, lookH, eqvL, eqv, eqvF, rnmL, rnm, liveN, Chunk.live, goodH, Chunk.good, okL, ok, sz, szL, storL, stor, renT, okT]
        · intro j
          exact ⟨m' - 1, by omega, k + 1, 64 * k, j, by omega, rfl⟩
    · have hk3 : n + len < 64 * k + 64 := by have := of_decide_eq_false hc'; omega
      have hk4 : k = (n + len) / 64 := by omega
      subst hk4
      refine ⟨⟨by omega, by omega, by omega⟩, ?_⟩
      refine intoR_mk [some 0, some 1, some 2, some 4] (.tup []) [.cells true [.int .u32 (nat (blk w T ((n + len) / 64) 0)), .int .u32 (nat (blk w T ((n + len) / 64) 1)), .int .u32 (nat (blk w T ((n + len) / 64) 2)), .int .u32 (nat (blk w T ((n + len) / 64) 3)), .int .u32 (nat (blk w T ((n + len) / 64) 4)), .int .u32 (nat (blk w T ((n + len) / 64) 5)), .int .u32 (nat (blk w T ((n + len) / 64) 6)), .int .u32 (nat (blk w T ((n + len) / 64) 7)), .osl 3 0 0 1 (n + len - 64 * ((n + len) / 64)), .int .i64 (cnt + len : Nat)], .none, .cells false [.fam len 1 fun i => .int .u8 (nat (B i))],
        .row true (n + len - 64 * ((n + len) / 64)) 1 fun i => .int .u8 (nat (T (64 * ((n + len) / 64) + i)))] ?_ ?_ ?_ ?_ ?_ ?_ ?_ hK
      · simp [slot, lkL, fixed, rg, renH, chEq, lookH, eqvL, eqv, eqvF, rnmL, rnm, liveN, Chunk.live, goodH, Chunk.good, okL, ok, sz, szL, storL, stor, renT, okT]
      · simp [slot, lkL, fixed, rg, renH, chEq, lookH, eqvL, eqv, eqvF, rnmL, rnm, liveN, Chunk.live, goodH, Chunk.good, okL, ok, sz, szL, storL, stor, renT, okT]
      · simp [slot, lkL, fixed, rg, renH, chEq, lookH, eqvL, eqv, eqvF, rnmL, rnm, liveN, Chunk.live, goodH, Chunk.good, okL, ok, sz, szL, storL, stor, renT, okT]
      · simp [slot, lkL, fixed, rg, renH, chEq, lookH, eqvL, eqv, eqvF, rnmL, rnm, liveN, Chunk.live, goodH, Chunk.good, okL, ok, sz, szL, storL, stor, renT, okT]
      · simp [slot, lkL, fixed, rg, renH, chEq, lookH, eqvL, eqv, eqvF, rnmL, rnm, liveN, Chunk.live, goodH, Chunk.good, okL, ok, sz, szL, storL, stor, renT, okT]
      · simp [slot, lkL, fixed, rg, renH, chEq, lookH, eqvL, eqv, eqvF, rnmL, rnm, liveN, Chunk.live, goodH, Chunk.good, okL, ok, sz, szL, storL, stor, renT, okT]
      · simp [slot, lkL, fixed, rg, renH, chEq, lookH, eqvL, eqv, eqvF, rnmL, rnm, liveN, Chunk.live, goodH, Chunk.good, okL, ok, sz, szL, storL, stor, renT, okT]

/-- Bytes written, in the words of all that has come. -/
theorem c17S (S len m : Nat) (A B : Nat → BitVec 8) (hm : len ≤ m) (hS : S + len ≤ 70368744177000) (K : Tok → SV → List Chunk → Prop)
    (hK : K .mk (.tup []) [.cells true [.int .u32 (nat (blk iv (cat S A B) ((S + len) / 64) 0)), .int .u32 (nat (blk iv (cat S A B) ((S + len) / 64) 1)), .int .u32 (nat (blk iv (cat S A B) ((S + len) / 64) 2)), .int .u32 (nat (blk iv (cat S A B) ((S + len) / 64) 3)), .int .u32 (nat (blk iv (cat S A B) ((S + len) / 64) 4)), .int .u32 (nat (blk iv (cat S A B) ((S + len) / 64) 5)), .int .u32 (nat (blk iv (cat S A B) ((S + len) / 64) 6)), .int .u32 (nat (blk iv (cat S A B) ((S + len) / 64) 7)), .osl 3 0 0 1 (S + len - 64 * ((S + len) / 64)), .int .i64 (S + len : Nat)], .none, .row false m 1 (fun i => .int .u8 (nat (B i))),
      .row true (S + len - 64 * ((S + len) / 64)) 1 fun i => .int .u8 (nat (cat S A B (64 * ((S + len) / 64) + i)))]) :
    callP Try.prog 17 [.ptr 0 0, .osl 2 0 0 1 len] [.cells true [.int .u32 (nat (blk iv A (S / 64) 0)), .int .u32 (nat (blk iv A (S / 64) 1)), .int .u32 (nat (blk iv A (S / 64) 2)), .int .u32 (nat (blk iv A (S / 64) 3)), .int .u32 (nat (blk iv A (S / 64) 4)), .int .u32 (nat (blk iv A (S / 64) 5)), .int .u32 (nat (blk iv A (S / 64) 6)), .int .u32 (nat (blk iv A (S / 64) 7)), .osl 1 0 0 1 (S - 64 * (S / 64)), .int .i64 (S : Nat)], .row true (S - 64 * (S / 64)) 1 (fun i => .int .u8 (nat (A (64 * (S / 64) + i)))), .row false m 1 fun i => .int .u8 (nat (B i))] K := by
  refine c17l (blk iv A (S / 64)) S (S - 64 * (S / 64)) 0 0 len m (fun i => A (64 * (S / 64) + i)) B (by omega) (by omega) (by omega) K ?_
  rw [show (fun i => B (0 + i)) = B from funext fun i => by rw [Nat.zero_add], blk_write, show S - 64 * (S / 64) + len - 64 * ((S - 64 * (S / 64) + len) / 64) = S + len - 64 * ((S + len) / 64) by omega,
    show (fun i => SV.int IntKind.u8 (nat (cat (S - 64 * (S / 64)) (fun i => A (64 * (S / 64) + i)) B (64 * ((S - 64 * (S / 64) + len) / 64) + i)))) = fun i => SV.int IntKind.u8 (nat (cat S A B (64 * ((S + len) / 64) + i))) from funext fun i => by rw [left_write]]
  exact hK
theorem c17A (S len : Nat) (A B : Nat → BitVec 8) (hS : S + len ≤ 70368744177000) (K : Tok → SV → List Chunk → Prop)
    (hK : K .mk (.tup []) [.cells true [.int .u32 (nat (blk iv (cat S A B) ((S + len) / 64) 0)), .int .u32 (nat (blk iv (cat S A B) ((S + len) / 64) 1)), .int .u32 (nat (blk iv (cat S A B) ((S + len) / 64) 2)), .int .u32 (nat (blk iv (cat S A B) ((S + len) / 64) 3)), .int .u32 (nat (blk iv (cat S A B) ((S + len) / 64) 4)), .int .u32 (nat (blk iv (cat S A B) ((S + len) / 64) 5)), .int .u32 (nat (blk iv (cat S A B) ((S + len) / 64) 6)), .int .u32 (nat (blk iv (cat S A B) ((S + len) / 64) 7)), .osl 3 0 0 1 (S + len - 64 * ((S + len) / 64)), .int .i64 (S + len : Nat)], .none, .cells false [.fam len 1 fun i => .int .u8 (nat (B i))],
      .row true (S + len - 64 * ((S + len) / 64)) 1 fun i => .int .u8 (nat (cat S A B (64 * ((S + len) / 64) + i)))]) :
    callP Try.prog 17 [.ptr 0 0, .sl 2 0 0 1 len len] [.cells true [.int .u32 (nat (blk iv A (S / 64) 0)), .int .u32 (nat (blk iv A (S / 64) 1)), .int .u32 (nat (blk iv A (S / 64) 2)), .int .u32 (nat (blk iv A (S / 64) 3)), .int .u32 (nat (blk iv A (S / 64) 4)), .int .u32 (nat (blk iv A (S / 64) 5)), .int .u32 (nat (blk iv A (S / 64) 6)), .int .u32 (nat (blk iv A (S / 64) 7)), .osl 1 0 0 1 (S - 64 * (S / 64)), .int .i64 (S : Nat)], .row true (S - 64 * (S / 64)) 1 (fun i => .int .u8 (nat (A (64 * (S / 64) + i)))), .cells false [.fam len 1 fun i => .int .u8 (nat (B i))]] K := by
  refine c17a (blk iv A (S / 64)) S (S - 64 * (S / 64)) len (fun i => A (64 * (S / 64) + i)) B (by omega) (by omega) K ?_
  rw [blk_write, show S - 64 * (S / 64) + len - 64 * ((S - 64 * (S / 64) + len) / 64) = S + len - 64 * ((S + len) / 64) by omega,
    show (fun i => SV.int IntKind.u8 (nat (cat (S - 64 * (S / 64)) (fun i => A (64 * (S / 64) + i)) B (64 * ((S - 64 * (S / 64) + len) / 64) + i)))) = fun i => SV.int IntKind.u8 (nat (cat S A B (64 * ((S + len) / 64) + i))) from funext fun i => by rw [left_write]]
  exact hK

/-- A piece written. -/
theorem c17p (p : Pc) (S : Nat) (A : Nat → BitVec 8) (hS : S + p.len ≤ 70368744177000) (K : Tok → SV → List Chunk → Prop)
    (hK : K .mk (.tup []) [.cells true [.int .u32 (nat (blk iv (cat S A p.fn) ((S + p.len) / 64) 0)), .int .u32 (nat (blk iv (cat S A p.fn) ((S + p.len) / 64) 1)), .int .u32 (nat (blk iv (cat S A p.fn) ((S + p.len) / 64) 2)), .int .u32 (nat (blk iv (cat S A p.fn) ((S + p.len) / 64) 3)), .int .u32 (nat (blk iv (cat S A p.fn) ((S + p.len) / 64) 4)), .int .u32 (nat (blk iv (cat S A p.fn) ((S + p.len) / 64) 5)), .int .u32 (nat (blk iv (cat S A p.fn) ((S + p.len) / 64) 6)), .int .u32 (nat (blk iv (cat S A p.fn) ((S + p.len) / 64) 7)), .osl 3 0 0 1 (S + p.len - 64 * ((S + p.len) / 64)), .int .i64 (S + p.len : Nat)], .none, p.ch,
      .row true (S + p.len - 64 * ((S + p.len) / 64)) 1 fun i => .int .u8 (nat (cat S A p.fn (64 * ((S + p.len) / 64) + i)))]) :
    callP Try.prog 17 [.ptr 0 0, p.sv 2] [.cells true [.int .u32 (nat (blk iv A (S / 64) 0)), .int .u32 (nat (blk iv A (S / 64) 1)), .int .u32 (nat (blk iv A (S / 64) 2)), .int .u32 (nat (blk iv A (S / 64) 3)), .int .u32 (nat (blk iv A (S / 64) 4)), .int .u32 (nat (blk iv A (S / 64) 5)), .int .u32 (nat (blk iv A (S / 64) 6)), .int .u32 (nat (blk iv A (S / 64) 7)), .osl 1 0 0 1 (S - 64 * (S / 64)), .int .i64 (S : Nat)], .row true (S - 64 * (S / 64)) 1 (fun i => .int .u8 (nat (A (64 * (S / 64) + i)))), p.ch] K := by
  cases p with
  | row len B => exact c17S S len len A B (Nat.le_refl _) hS K hK
  | arr n B => exact c17A S n A B hS K hK
  | nil a c =>
    have hS' : S ≤ 70368744177000 := hS
    refine callP_into (K' := fun _ v h' => v = .tup [] ∧ h' = [.cells true [.int .u32 (nat (blk iv A (S / 64) 0)), .int .u32 (nat (blk iv A (S / 64) 1)), .int .u32 (nat (blk iv A (S / 64) 2)), .int .u32 (nat (blk iv A (S / 64) 3)), .int .u32 (nat (blk iv A (S / 64) 4)), .int .u32 (nat (blk iv A (S / 64) 5)), .int .u32 (nat (blk iv A (S / 64) 6)), .int .u32 (nat (blk iv A (S / 64) 7)), .osl 3 0 0 1 (S - 64 * (S / 64)), .int .i64 (S : Nat)], .none, .row false 0 1 fun _ => .int .u8 0, .row true (S - 64 * (S / 64)) 1 fun i => .int .u8 (nat (A (64 * (S / 64) + i)))]) ?_ ?_
    · refine callP_frame (argsL := [.ptr 0 0, .v (.slice a 0 c)]) (KL := fun _ v h' => v = .tup [] ∧ h' = [.cells true [.int .u32 (nat (blk iv A (S / 64) 0)), .int .u32 (nat (blk iv A (S / 64) 1)), .int .u32 (nat (blk iv A (S / 64) 2)), .int .u32 (nat (blk iv A (S / 64) 3)), .int .u32 (nat (blk iv A (S / 64) 4)), .int .u32 (nat (blk iv A (S / 64) 5)), .int .u32 (nat (blk iv A (S / 64) 6)), .int .u32 (nat (blk iv A (S / 64) 7)), .osl 2 0 0 1 (S - 64 * (S / 64)), .int .i64 (S : Nat)], .none, .row true (S - 64 * (S / 64)) 1 fun i => .int .u8 (nat (A (64 * (S / 64) + i)))]) [0, 1] (c17e (blk iv A (S / 64)) S (S - 64 * (S / 64)) (fun i => A (64 * (S / 64) + i)) a c (by omega) (by omega) _ ⟨rfl, rfl⟩) ?_ ?_ ?_ ?_ ?_ ?_
      · simp
      · simp [slot, lkL, fixed, rg, renH, chEq, lookH, eqvL, eqv, eqvF, rnmL, rnm, liveN, Chunk.live, goodH, Chunk.good, okL, ok, sz, szL, storL, stor, renT, okT, has, upG, up, nth, roOk, keepsLive, Chunk.wr, lay, rnmC, putH, Pc.ch]
      · simp [slot, lkL, fixed, rg, renH, chEq, lookH, eqvL, eqv, eqvF, rnmL, rnm, liveN, Chunk.live, goodH, Chunk.good, okL, ok, sz, szL, storL, stor, renT, okT, has, upG, up, nth, roOk, keepsLive, Chunk.wr, lay, rnmC, putH]
      · simp [slot, lkL, fixed, rg, renH, chEq, lookH, eqvL, eqv, eqvF, rnmL, rnm, liveN, Chunk.live, goodH, Chunk.good, okL, ok, sz, szL, storL, stor, renT, okT, has, upG, up, nth, roOk, keepsLive, Chunk.wr, lay, rnmC, putH]
      · simp [slot, lkL, fixed, rg, renH, chEq, lookH, eqvL, eqv, eqvF, rnmL, rnm, liveN, Chunk.live, goodH, Chunk.good, okL, ok, sz, szL, storL, stor, renT, okT, has, upG, up, nth, roOk, keepsLive, Chunk.wr, lay, rnmC, putH, Pc.sv]
      · rintro v h' ⟨rfl, rfl⟩
        refine ⟨by simp [slot, lkL, fixed, rg, renH, chEq, lookH, eqvL, eqv, eqvF, rnmL, rnm, liveN, Chunk.live, goodH, Chunk.good, okL, ok, sz, szL, storL, stor, renT, okT, has, upG, up, nth, roOk, keepsLive, Chunk.wr, lay, rnmC, putH], by simp [slot, lkL, fixed, rg, renH, chEq, lookH, eqvL, eqv, eqvF, rnmL, rnm, liveN, Chunk.live, goodH, Chunk.good, okL, ok, sz, szL, storL, stor, renT, okT, has, upG, up, nth, roOk, keepsLive, Chunk.wr, lay, rnmC, putH], ?_⟩
        simp [rnm, rnmL, lay, Chunk.wr, putH, rnmC, upG, up, nth, Pc.ch]
    · rintro v h' ⟨rfl, rfl⟩
      refine intoR_mk [some 0, some 1, some 2, some 3] (.tup []) [.cells true [.int .u32 (nat (blk iv (cat S A (fun _ => 0)) (S / 64) 0)), .int .u32 (nat (blk iv (cat S A (fun _ => 0)) (S / 64) 1)), .int .u32 (nat (blk iv (cat S A (fun _ => 0)) (S / 64) 2)), .int .u32 (nat (blk iv (cat S A (fun _ => 0)) (S / 64) 3)), .int .u32 (nat (blk iv (cat S A (fun _ => 0)) (S / 64) 4)), .int .u32 (nat (blk iv (cat S A (fun _ => 0)) (S / 64) 5)), .int .u32 (nat (blk iv (cat S A (fun _ => 0)) (S / 64) 6)), .int .u32 (nat (blk iv (cat S A (fun _ => 0)) (S / 64) 7)), .osl 3 0 0 1 (S - 64 * (S / 64)), .int .i64 (S : Nat)], .none, .row false 0 1 fun _ => .int .u8 0,
      .row true (S - 64 * (S / 64)) 1 fun i => .int .u8 (nat (cat S A (fun _ => 0) (64 * (S / 64) + i)))] ?_ ?_ ?_ ?_ ?_ ?_ ?_ ⟨hK, fun _ => rfl⟩
      · simp [slot, lkL, fixed, rg, renH, chEq, lookH, eqvL, eqv, eqvF, rnmL, rnm, liveN, Chunk.live, goodH, Chunk.good, okL, ok, sz, szL, storL, stor, renT, okT]
      · simp [slot, lkL, fixed, rg, renH, chEq, lookH, eqvL, eqv, eqvF, rnmL, rnm, liveN, Chunk.live, goodH, Chunk.good, okL, ok, sz, szL, storL, stor, renT, okT]
      · rw [blk_congr iv (T := cat S A fun _ => 0) (T' := A) (S / 64) fun i hi => by simp only [cat, show i < S by omega, if_true]]
        simp [slot, lkL, fixed, rg, renH, chEq, lookH, eqvL, eqv, eqvF, rnmL, rnm, liveN, Chunk.live, goodH, Chunk.good, okL, ok, sz, szL, storL, stor, renT, okT]
        intro i hi
        simp [cat, show 64 * (S / 64) + i < S by omega, eqv]
      · simp [slot, lkL, fixed, rg, renH, chEq, lookH, eqvL, eqv, eqvF, rnmL, rnm, liveN, Chunk.live, goodH, Chunk.good, okL, ok, sz, szL, storL, stor, renT, okT]
      · simp [slot, lkL, fixed, rg, renH, chEq, lookH, eqvL, eqv, eqvF, rnmL, rnm, liveN, Chunk.live, goodH, Chunk.good, okL, ok, sz, szL, storL, stor, renT, okT]
      · simp [slot, lkL, fixed, rg, renH, chEq, lookH, eqvL, eqv, eqvF, rnmL, rnm, liveN, Chunk.live, goodH, Chunk.good, okL, ok, sz, szL, storL, stor, renT, okT]
      · simp [slot, lkL, fixed, rg, renH, chEq, lookH, eqvL, eqv, eqvF, rnmL, rnm, liveN, Chunk.live, goodH, Chunk.good, okL, ok, sz, szL, storL, stor, renT, okT]

/-- The sum of all that has come. -/
theorem c19S (S : Nat) (A : Nat → BitVec 8) (F : Nat → SV) (hF : (fun i => SV.int .u8 (nat (shaD S A i))) = F) (hS : S ≤ 70368744177000) (K : Tok → SV → List Chunk → Prop)
    (hK : K .mk (.fam 32 1 F) [.cells true [.int .u32 (nat (blk iv A (S / 64) 0)), .int .u32 (nat (blk iv A (S / 64) 1)), .int .u32 (nat (blk iv A (S / 64) 2)), .int .u32 (nat (blk iv A (S / 64) 3)), .int .u32 (nat (blk iv A (S / 64) 4)), .int .u32 (nat (blk iv A (S / 64) 5)), .int .u32 (nat (blk iv A (S / 64) 6)), .int .u32 (nat (blk iv A (S / 64) 7)), .osl 1 0 0 1 (S - 64 * (S / 64)), .int .i64 (S : Nat)], .row true (S - 64 * (S / 64)) 1 (fun i => .int .u8 (nat (A (64 * (S / 64) + i))))]) :
    callP Try.prog 19 [.ptr 0 0] [.cells true [.int .u32 (nat (blk iv A (S / 64) 0)), .int .u32 (nat (blk iv A (S / 64) 1)), .int .u32 (nat (blk iv A (S / 64) 2)), .int .u32 (nat (blk iv A (S / 64) 3)), .int .u32 (nat (blk iv A (S / 64) 4)), .int .u32 (nat (blk iv A (S / 64) 5)), .int .u32 (nat (blk iv A (S / 64) 6)), .int .u32 (nat (blk iv A (S / 64) 7)), .osl 1 0 0 1 (S - 64 * (S / 64)), .int .i64 (S : Nat)], .row true (S - 64 * (S / 64)) 1 (fun i => .int .u8 (nat (A (64 * (S / 64) + i))))] K := by
  refine c19l (blk iv A (S / 64)) S (S - 64 * (S / 64)) (fun i => A (64 * (S / 64) + i)) (by omega) (by omega) K ?_
  rw [sum_of, hF]
  exact hK

/-- A hash to which so many bytes have come. -/
def HS (nm S : Nat) (A : Nat → BitVec 8) : Chunk := .cells true [.int .u32 (nat (blk iv A (S / 64) 0)), .int .u32 (nat (blk iv A (S / 64) 1)), .int .u32 (nat (blk iv A (S / 64) 2)), .int .u32 (nat (blk iv A (S / 64) 3)), .int .u32 (nat (blk iv A (S / 64) 4)), .int .u32 (nat (blk iv A (S / 64) 5)), .int .u32 (nat (blk iv A (S / 64) 6)), .int .u32 (nat (blk iv A (S / 64) 7)), .osl nm 0 0 1 (S - 64 * (S / 64)), .int .i64 (S : Nat)]
def HB (S : Nat) (A : Nat → BitVec 8) : Chunk := .row true (S - 64 * (S / 64)) 1 fun i => .int .u8 (nat (A (64 * (S / 64) + i)))
def HSO (S : Nat) (A : Nat → BitVec 8) : Option Nat → Chunk
  | some k => HS k S A
  | none => rnmC (fun _ => none) (HS 0 S A)
theorem HSO_some (S : Nat) (A : Nat → BitVec 8) (k : Nat) : HSO S A (some k) = HS k S A := rfl
theorem rnmC_HS (g : Nat → Option Nat) (nm S : Nat) (A : Nat → BitVec 8) : rnmC g (HS nm S A) = HSO S A (g nm) := by
  cases h : g nm <;> simp [HSO, HS, rnmC, rnmL, rnm, h]
theorem rnmC_HB (g : Nat → Option Nat) (S : Nat) (A : Nat → BitVec 8) : rnmC g (HB S A) = HB S A := by simp [HB, rnmC, rnm]
theorem chEq_HS (g : Nat → Option Nat) (k nm S : Nat) (A : Nat → BitVec 8) : chEq g (HS k S A) (HS nm S A) = (g nm = some k) := by
  cases h : g nm <;> simp [HS, chEq, eqvL, eqv, rnmL, rnm, h]
  constructor <;> intro e <;> exact e.symm
theorem chEq_HB (g : Nat → Option Nat) (S : Nat) (A : Nat → BitVec 8) : chEq g (HB S A) (HB S A) = True := by simp [HB, chEq, eqv, rnm]
theorem wr_HS (nm S : Nat) (A : Nat → BitVec 8) : (HS nm S A).wr = true := rfl
theorem wr_HB (S : Nat) (A : Nat → BitVec 8) : (HB S A).wr = true := rfl
theorem live_HS (nm S : Nat) (A : Nat → BitVec 8) : (HS nm S A).live = true := rfl
theorem live_HB (S : Nat) (A : Nat → BitVec 8) : (HB S A).live = true := rfl
theorem good_HS {n nm : Nat} (h : nm < n) (S : Nat) (A : Nat → BitVec 8) : (HS nm S A).good n = True := by simp [HS, Chunk.good, okL, ok, storL, stor, h]
theorem good_HB (n S : Nat) (A : Nat → BitVec 8) : (HB S A).good n = True := by simp [HB, Chunk.good, ok, stor, sz]

/-- The rules in one. -/
def hsB := And.intro @rnmC_HS (And.intro @rnmC_HB (And.intro @HSO_some (And.intro @chEq_HS (And.intro @chEq_HB (And.intro @wr_HS (And.intro @wr_HB (And.intro @live_HS (And.intro @live_HB (And.intro @good_HS (@good_HB))))))))))
theorem c16H (K : Tok → SV → List Chunk → Prop) (hK : K .mk (.ptr 0 0) [HS 1 0 fun _ => 0, HB 0 fun _ => 0]) : callP Try.prog 16 [] [] K := by
  refine callP_into (K' := fun _ v h' => v = .ptr 0 0 ∧ h' = [.cells true [.int .u32 (nat (iv 0)), .int .u32 (nat (iv 1)), .int .u32 (nat (iv 2)), .int .u32 (nat (iv 3)), .int .u32 (nat (iv 4)), .int .u32 (nat (iv 5)), .int .u32 (nat (iv 6)), .int .u32 (nat (iv 7)), .osl 1 0 0 1 0, .int .i64 0], .row true 0 1 fun i => .int .u8 0]) (c16l _ ⟨rfl, rfl⟩) ?_
  rintro v h' ⟨rfl, rfl⟩
  refine intoR_mk [some 0, some 1] (.ptr 0 0) [HS 1 0 fun _ => 0, HB 0 fun _ => 0] ?_ ?_ ?_ ?_ ?_ ?_ ?_ ⟨hK, by simp⟩
  · simp [slot, lkL, fixed, rg, renH, chEq, lookH, eqvL, eqv, eqvF, rnmL, rnm, liveN, Chunk.live, goodH, Chunk.good, okL, ok, sz, szL, storL, stor, renT, okT]
  · simp [slot, lkL, fixed, rg, renH, chEq, lookH, eqvL, eqv, eqvF, rnmL, rnm, liveN, Chunk.live, goodH, Chunk.good, okL, ok, sz, szL, storL, stor, renT, okT]
  · simp [slot, lkL, fixed, rg, renH, chEq, lookH, eqvL, eqv, eqvF, rnmL, rnm, liveN, Chunk.live, goodH, Chunk.good, okL, ok, sz, szL, storL, stor, renT, okT, HS, HB, blk]
  · simp [slot, lkL, fixed, rg, renH, chEq, lookH, eqvL, eqv, eqvF, rnmL, rnm, liveN, Chunk.live, goodH, Chunk.good, okL, ok, sz, szL, storL, stor, renT, okT, HS, HB]
  · simp [slot, lkL, fixed, rg, renH, chEq, lookH, eqvL, eqv, eqvF, rnmL, rnm, liveN, Chunk.live, goodH, Chunk.good, okL, ok, sz, szL, storL, stor, renT, okT, HS, HB]
  · simp [slot, lkL, fixed, rg, renH, chEq, lookH, eqvL, eqv, eqvF, rnmL, rnm, liveN, Chunk.live, goodH, Chunk.good, okL, ok, sz, szL, storL, stor, renT, okT]
  · simp [slot, lkL, fixed, rg, renH, chEq, lookH, eqvL, eqv, eqvF, rnmL, rnm, liveN, Chunk.live, goodH, Chunk.good, okL, ok, sz, szL, storL, stor, renT, okT]
theorem c17H (p : Pc) (S S' : Nat) (A A' : Nat → BitVec 8) (hS : S + p.len ≤ 70368744177000) (hS' : S + p.len = S') (hA' : cat S A p.fn = A') (K : Tok → SV → List Chunk → Prop)
    (hK : K .mk (.tup []) [HS 3 S' A', .none, p.ch, HB S' A']) : callP Try.prog 17 [.ptr 0 0, p.sv 2] [HS 1 S A, HB S A, p.ch] K := by
  subst hS' hA'
  exact c17p p S A hS K hK
theorem c19H (S : Nat) (A : Nat → BitVec 8) (F : Nat → SV) (hF : (fun i => SV.int .u8 (nat (shaD S A i))) = F) (hS : S ≤ 70368744177000) (K : Tok → SV → List Chunk → Prop)
    (hK : K .mk (.fam 32 1 F) [HS 1 S A, HB S A]) : callP Try.prog 19 [.ptr 0 0] [HS 1 S A, HB S A] K := c19S S A F hF hS K hK
end Go.Proofs.Ytbjelfgclhmedaa
