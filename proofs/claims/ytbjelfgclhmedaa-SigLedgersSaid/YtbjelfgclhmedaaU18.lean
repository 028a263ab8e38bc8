/- Contracts of functions that the laws reach, by the symbolic executor of the texts Sxa to Sxt. No condition. -/
import Derived.Test.YtbjelfgclhmedaaU17
set_option linter.all false
set_option maxRecDepth 40000
namespace Go.Proofs.Ytbjelfgclhmedaa
open Go Go.Sx

/-- The bytes that are signed. -/
def keyB (key : Int) (j : Nat) : BitVec 8 := ((BitVec.ofInt 64 key) >>> (8 * (7 - j))).setWidth 8
def sigH (key : Int) (i : Nat) : BitVec 8 := if i = 0 then 4 else keyB key (i - 1)
def sigT (key : Int) (B : Nat → BitVec 8) (i : Nat) : BitVec 8 := if i < 9 then sigH key i else B (i - 9)
theorem wrap_key (key : Int) : IntKind.u64.wrap key = nat (BitVec.ofInt 64 key) := by
  rw [wrapU rfl]
  simp only [nat, BitVec.toNat_ofInt]
  rw [show (2 : Int) ^ IntKind.u64.bits = ((2 ^ 64 : Nat) : Int) from rfl]
  omega
theorem res25 : Try.f25.results.toList = [.cell 4 40] := rfl
set_option maxHeartbeats 4000000 in
theorem c25l (key : Int) (m len : Nat) (B : Nat → BitVec 8) (hm : len ≤ m) (hl : len ≤ 70368744177000) (K : Tok → SV → List Chunk → Prop)
    (hK : K .mk (.agg [.int .i64 key, .fam 32 1 fun i => .int .u8 (nat (shaD (9 + len) (sigT key B) i))]) [.row false m 1 fun i => .int .u8 (nat (B i))]) :
    callP Try.prog 25 [.int .i64 key, .osl 0 0 0 1 len] [.row false m 1 fun i => .int .u8 (nat (B i))] K := by
  refine callP_of_code tabOk Try.func25 (by kernel_rfl) rfl (Nat.le_of_ble_eq_true rfl) (codeP_of_vc (pl := np) tabOk follows_mixed (by kernel_rfl) ?_)
  rw [Try.ntmps25]
  have f0 := wrap_key key
  simp -implicitDefEqProofs (maxSteps := 1000000) (disch := omega) only [↓vcB, ↓gd, ↓opP, ↓qv, ↓ef, ↓bslS, ↓stS, ↓mkS, ↓mupS, ↓appS, ↓s2bS, ↓resS, evB, Sx.look, slot, ↓lkL, putS, putO, argsL, ↓reduceIte, ofV, of1, lookH, putH, List.length_cons, List.length_nil, List.length_append, List.replicate, List.append, List.cons_append, List.nil_append, List.append_assoc, List.map_cons, List.map_nil, convS, fldA, nthT, idxA, idxS, fldS, oslN, bnd, slS, unS, valI, lenS, lookS, takeC, parts, asRow, single, rdF, Ent.row, ldS, sz, szL, wrF, bldF, plT, bldS, srcS, nilS, nilEq, binS2, structS, eqL, eqF, binS, arrS, isI, tupS, stor, storL, Value.oneCell', minS, maxS, capS, true_and, and_true, Nat.reduceAdd, Nat.reduceSub, Nat.reduceMul, Nat.reduceLT, Nat.reduceLeDiff, Nat.reduceEqDiff, Nat.reduceBEq, Int.reduceToNat, Int.reduceNeg, Nat.zero_add, Nat.add_zero, Nat.sub_self, Nat.sub_zero, Nat.zero_mul, Nat.mul_one, Nat.zero_le, if_true, if_false, reduceIte, stays, inL, same1, qn, ldN, convN, lenN, List.mem_cons, List.not_mem_nil, Option.map_some, Option.map_none, cond_true, cond_false, Sx.imp_true, Sx.imp_false, implies_true, Int.reduceEq, Int.reduceNe, Int.reduceLE, Int.reduceLT, decide_true, decide_false, List.zipIdx_cons, List.zipIdx_nil, or_false, false_or, forall_eq_or_imp, forall_eq, ne_eq, reduceCtorEq, not_false_eq_true, Bool.false_eq_true, Bool.true_eq_false, Bool.not_true, Bool.not_false, notInt, numB, tabB, Array.reduceGetElem?, res25]
  refine codeP_loop (pl := np) tabOk follows_mixed (by kernel_rfl) (fun k' s => ∃ (k : Nat) (j : Nat → Value), k + k' = 8 ∧ s = ⟨⟨27, [(0, .int .i64 key), (1, .osl 0 0 0 1 len), (4, .ptr 1 0), (5, .osl 2 0 0 1 (1 + k)), (6, .int .i64 (7 - (k : Nat)))], j⟩, [.row false m 1 fun i => .int .u8 (nat (B i)), .cells true [.int .i64 0, .fam 32 1 fun _ => .int .u8 0], .row true (1 + k) 1 fun i => .int .u8 (nat (sigH key i))], []⟩) ?_ ?_
  · refine into_mk [some 0, some 1, some 2] [(0, .int .i64 key), (1, .osl 0 0 0 1 len), (4, .ptr 1 0), (5, .osl 2 0 0 1 (1 + 0)), (6, .int .i64 (7 - (0 : Nat)))] [.row false m 1 fun i => .int .u8 (nat (B i)), .cells true [.int .i64 0, .fam 32 1 fun _ => .int .u8 0], .row true (1 + 0) 1 fun i => .int .u8 (nat (sigH key i))] ?_ ?_ ?_ ?_ ?_ ?_ ?_ ?_
    · simp [slot, lkL, fixed, rg, renH, chEq, lookH, eqvL, eqv, eqvF, rnmL, rnm, liveN, Chunk.live, goodH, Chunk.good, okL, ok, sz, szL, storL, stor, renT, okT]
    · simp [slot, lkL, fixed, rg, renH, chEq, lookH, eqvL, eqv, eqvF, rnmL, rnm, liveN, Chunk.live, goodH, Chunk.good, okL, ok, sz, szL, storL, stor, renT, okT]
    · simp [slot, lkL, fixed, rg, renH, chEq, lookH, eqvL, eqv, eqvF, rnmL, rnm, liveN, Chunk.live, goodH, Chunk.good, okL, ok, sz, szL, storL, stor, renT, okT, sigH, Sx.look, nat]
    · simp [slot, lkL, fixed, rg, renH, chEq, lookH, eqvL, eqv, eqvF, rnmL, rnm, liveN, Chunk.live, goodH, Chunk.good, okL, ok, sz, szL, storL, stor, renT, okT]
    · simp [slot, lkL, fixed, rg, renH, chEq, lookH, eqvL, eqv, eqvF, rnmL, rnm, liveN, Chunk.live, goodH, Chunk.good, okL, ok, sz, szL, storL, stor, renT, okT]
    · simp [slot, lkL, fixed, rg, renH, chEq, lookH, eqvL, eqv, eqvF, rnmL, rnm, liveN, Chunk.live, goodH, Chunk.good, okL, ok, sz, szL, storL, stor, renT, okT]
    · simp [slot, lkL, fixed, rg, renH, chEq, lookH, eqvL, eqv, eqvF, rnmL, rnm, liveN, Chunk.live, goodH, Chunk.good, okL, ok, sz, szL, storL, stor, renT, okT]
    · intro j
      exact ⟨8, 0, j, by omega, rfl⟩
  · rintro k' s ⟨k, j, hk, rfl⟩
    by_cases hk8 : k = 8
    · subst hk8
      have f3 : (decide ((7 - ((8 : Nat) : Int)) ≥ 0)) = false := by decide
      simp -implicitDefEqProofs (maxSteps := 1000000) (disch := omega) only [↓vcB, ↓gd, ↓opP, ↓qv, ↓ef, ↓bslS, ↓stS, ↓mkS, ↓mupS, ↓appS, ↓s2bS, ↓resS, evB, Sx.look, slot, ↓lkL, putS, putO, argsL, ↓reduceIte, ofV, of1, lookH, putH, List.length_cons, List.length_nil, List.length_append, List.replicate, List.append, List.cons_append, List.nil_append, List.append_assoc, List.map_cons, List.map_nil, convS, fldA, nthT, idxA, idxS, fldS, oslN, bnd, slS, unS, valI, lenS, lookS, takeC, parts, asRow, single, rdF, Ent.row, ldS, sz, szL, wrF, bldF, plT, bldS, srcS, nilS, nilEq, binS2, structS, eqL, eqF, binS, arrS, isI, tupS, stor, storL, Value.oneCell', minS, maxS, capS, true_and, and_true, Nat.reduceAdd, Nat.reduceSub, Nat.reduceMul, Nat.reduceLT, Nat.reduceLeDiff, Nat.reduceEqDiff, Nat.reduceBEq, Int.reduceToNat, Int.reduceNeg, Nat.zero_add, Nat.add_zero, Nat.sub_self, Nat.sub_zero, Nat.zero_mul, Nat.mul_one, Nat.zero_le, if_true, if_false, reduceIte, stays, inL, same1, qn, ldN, convN, lenN, List.mem_cons, List.not_mem_nil, Option.map_some, Option.map_none, cond_true, cond_false, Sx.imp_true, Sx.imp_false, implies_true, Int.reduceEq, Int.reduceNe, Int.reduceLE, Int.reduceLT, decide_true, decide_false, List.zipIdx_cons, List.zipIdx_nil, or_false, false_or, forall_eq_or_imp, forall_eq, ne_eq, reduceCtorEq, not_false_eq_true, Bool.false_eq_true, Bool.true_eq_false, Bool.not_true, Bool.not_false, notInt, numB, tabB, Array.reduceGetElem?, res25, f3]
      have hrow : ∀ i, i < 9 + len → (if i < 9 then SV.int IntKind.u8 (nat (sigH key i)) else SV.int IntKind.u8 (nat (B (i - 9)))) = .int .u8 (nat (sigT key B i)) := fun i _ => by
        simp only [sigT]
        split <;> rfl
      obtain ⟨F, hF⟩ : ∃ F : Nat → SV, (fun i => SV.int .u8 (nat (shaD (9 + len) (sigT key B) i))) = F := ⟨_, rfl⟩
      have hF' : ∀ i, F i = .int .u8 (nat (shaD (9 + len) (sigT key B) i)) := fun i => by rw [← hF]
      rw [hF] at hK
      refine ⟨⟨hm, by omega, by omega⟩, c20F (9 + len) (9 + len) (sigT key B) _ hrow (by omega) (by omega) true rfl (by simp) F hF _ ?_⟩
      simp -implicitDefEqProofs (maxSteps := 1000000) (disch := omega) only [↓vcB, ↓gd, ↓opP, ↓qv, ↓ef, ↓bslS, ↓stS, ↓mkS, ↓mupS, ↓appS, ↓s2bS, ↓resS, evB, Sx.look, slot, ↓lkL, putS, putO, argsL, ↓reduceIte, ofV, of1, lookH, putH, List.length_cons, List.length_nil, List.length_append, List.replicate, List.append, List.cons_append, List.nil_append, List.append_assoc, List.map_cons, List.map_nil, convS, fldA, nthT, idxA, idxS, fldS, oslN, bnd, slS, unS, valI, lenS, lookS, takeC, parts, asRow, single, rdF, Ent.row, ldS, sz, szL, wrF, bldF, plT, bldS, srcS, nilS, nilEq, binS2, structS, eqL, eqF, binS, arrS, isI, tupS, stor, storL, Value.oneCell', minS, maxS, capS, true_and, and_true, Nat.reduceAdd, Nat.reduceSub, Nat.reduceMul, Nat.reduceLT, Nat.reduceLeDiff, Nat.reduceEqDiff, Nat.reduceBEq, Int.reduceToNat, Int.reduceNeg, Nat.zero_add, Nat.add_zero, Nat.sub_self, Nat.sub_zero, Nat.zero_mul, Nat.mul_one, Nat.zero_le, if_true, if_false, reduceIte, stays, inL, same1, qn, ldN, convN, lenN, List.mem_cons, List.not_mem_nil, Option.map_some, Option.map_none, cond_true, cond_false, Sx.imp_true, Sx.imp_false, implies_true, Int.reduceEq, Int.reduceNe, Int.reduceLE, Int.reduceLT, decide_true, decide_false, List.zipIdx_cons, List.zipIdx_nil, or_false, false_or, forall_eq_or_imp, forall_eq, ne_eq, reduceCtorEq, not_false_eq_true, Bool.false_eq_true, Bool.true_eq_false, Bool.not_true, Bool.not_false, notInt, numB, tabB, Array.reduceGetElem?, res25, hF']
      exact intoR_take [.row false m 1 fun i => .int .u8 (nat (B i))] rfl rfl (by simp [slot, lkL, fixed, rg, renH, chEq, lookH, eqvL, eqv, eqvF, rnmL, rnm, liveN, Chunk.live, goodH, Chunk.good, okL, ok, sz, szL, storL, stor, renT, okT]) (by simp [slot, lkL, fixed, rg, renH, chEq, lookH, eqvL, eqv, eqvF, rnmL, rnm, liveN, Chunk.live, goodH, Chunk.good, okL, ok, sz, szL, storL, stor, renT, okT, hF']) hK
    · have f1' : IntKind.i64.wrap (8 * (7 - (k : Int))) = ((8 * (7 - k) : Nat) : Int) := by rw [wrap64 (by omega) (by omega)]; omega
      have f2 : IntKind.i64.wrap ((7 - (k : Int)) - 1) = 7 - ((k + 1 : Nat) : Int) := by rw [wrap64 (by omega) (by omega)]; omega
      have f3 : (decide ((7 - (k : Int)) ≥ 0)) = true := by simp; omega
      have f5 := shr64 (BitVec.ofInt 64 key) (8 * (7 - k)) (by omega)
      simp -implicitDefEqProofs (maxSteps := 1000000) (disch := omega) only [↓vcB, ↓gd, ↓opP, ↓qv, ↓ef, ↓bslS, ↓stS, ↓mkS, ↓mupS, ↓appS, ↓s2bS, ↓resS, evB, Sx.look, slot, ↓lkL, putS, putO, argsL, ↓reduceIte, ofV, of1, lookH, putH, List.length_cons, List.length_nil, List.length_append, List.replicate, List.append, List.cons_append, List.nil_append, List.append_assoc, List.map_cons, List.map_nil, convS, fldA, nthT, idxA, idxS, fldS, oslN, bnd, slS, unS, valI, lenS, lookS, takeC, parts, asRow, single, rdF, Ent.row, ldS, sz, szL, wrF, bldF, plT, bldS, srcS, nilS, nilEq, binS2, structS, eqL, eqF, binS, arrS, isI, tupS, stor, storL, Value.oneCell', minS, maxS, capS, true_and, and_true, Nat.reduceAdd, Nat.reduceSub, Nat.reduceMul, Nat.reduceLT, Nat.reduceLeDiff, Nat.reduceEqDiff, Nat.reduceBEq, Int.reduceToNat, Int.reduceNeg, Nat.zero_add, Nat.add_zero, Nat.sub_self, Nat.sub_zero, Nat.zero_mul, Nat.mul_one, Nat.zero_le, if_true, if_false, reduceIte, stays, inL, same1, qn, ldN, convN, lenN, List.mem_cons, List.not_mem_nil, Option.map_some, Option.map_none, cond_true, cond_false, Sx.imp_true, Sx.imp_false, implies_true, Int.reduceEq, Int.reduceNe, Int.reduceLE, Int.reduceLT, decide_true, decide_false, List.zipIdx_cons, List.zipIdx_nil, or_false, false_or, forall_eq_or_imp, forall_eq, ne_eq, reduceCtorEq, not_false_eq_true, Bool.false_eq_true, Bool.true_eq_false, Bool.not_true, Bool.not_false, notInt, numB, tabB, Array.reduceGetElem?, res25, f0, f1', f2, f3, f5, Int.toNat_natCast]
      and_intros <;> try omega
      refine into_mk [some 0, some 1, some 4] [(0, .int .i64 key), (1, .osl 0 0 0 1 len), (4, .ptr 1 0), (5, .osl 2 0 0 1 (1 + (k + 1))), (6, .int .i64 (7 - (k + 1 : Nat)))] [.row false m 1 fun i => .int .u8 (nat (B i)), .cells true [.int .i64 0, .fam 32 1 fun _ => .int .u8 0], .row true (1 + (k + 1)) 1 fun i => .int .u8 (nat (sigH key i))] ?_ ?_ ?_ ?_ ?_ ?_ ?_ ?_
      · simp [slot, lkL, fixed, rg, renH, chEq, lookH, eqvL, eqv, eqvF, rnmL, rnm, liveN, Chunk.live, goodH, Chunk.good, okL, ok, sz, szL, storL, stor, renT, okT]
      · simp [slot, lkL, fixed, rg, renH, chEq, lookH, eqvL, eqv, eqvF, rnmL, rnm, liveN, Chunk.live, goodH, Chunk.good, okL, ok, sz, szL, storL, stor, renT, okT]
      · simp [slot, lkL, fixed, rg, renH, chEq, lookH, eqvL, eqv, eqvF, rnmL, rnm, liveN, Chunk.live, goodH, Chunk.good, okL, ok, sz, szL, storL, stor, renT, okT]
        refine ⟨by omega, fun i hi => ?_⟩
        by_cases h : i < 1 + k
        · simp [h, eqv]
        · have h2 : i = 1 + k := by omega
          subst h2
          simp [sigH, keyB, eqv, Sx.look]
      · simp [slot, lkL, fixed, rg, renH, chEq, lookH, eqvL, eqv, eqvF, rnmL, rnm, liveN, Chunk.live, goodH, Chunk.good, okL, ok, sz, szL, storL, stor, renT, okT]
      · simp [slot, lkL, fixed, rg, renH, chEq, lookH, eqvL, eqv, eqvF, rnmL, rnm, liveN, Chunk.live, goodH, Chunk.good, okL, ok, sz, szL, storL, stor, renT, okT]
      · simp [slot, lkL, fixed, rg, renH, chEq, lookH, eqvL, eqv, eqvF, rnmL, rnm, liveN, Chunk.live, goodH, Chunk.good, okL, ok, sz, szL, storL, stor, renT, okT]
        try omega
      · simp [slot, lkL, fixed, rg, renH, chEq, lookH, eqvL, eqv, eqvF, rnmL, rnm, liveN, Chunk.live, goodH, Chunk.good, okL, ok, sz, szL, storL, stor, renT, okT]
      · intro j
        exact ⟨k' - 1, by omega, k + 1, j, by omega, rfl⟩
theorem c25 (key : Int) (m len : Nat) (B : Nat → BitVec 8) (f : Nat → SV) (hf : ∀ i, i < m → f i = .int .u8 (nat (B i))) (hm : len ≤ m) (hl : len ≤ 70368744177000) {h : List Chunk} {nm : Nat} (wr : Bool) (hh : lookH h nm = .row wr m 1 f) (hnm : nm < h.length) (F : Nat → SV) (hF : (fun i => SV.int .u8 (nat (shaD (9 + len) (sigT key B) i))) = F) (K : Tok → SV → List Chunk → Prop)
    (hK : K .mk (.agg [.int .i64 key, .fam 32 1 F]) h) : callP Try.prog 25 [.int .i64 key, .osl nm 0 0 1 len] h K := by
  subst hF
  refine callP_frame (argsL := [.int .i64 key, .osl 0 0 0 1 len]) (KL := fun _ v h' => v = .agg [.int .i64 key, .fam 32 1 fun i => .int .u8 (nat (shaD (9 + len) (sigT key B) i))] ∧ h' = [.row false m 1 fun i => .int .u8 (nat (B i))]) [nm] (c25l key m len B hm hl _ ⟨rfl, rfl⟩) ?_ ?_ ?_ ?_ ?_ ?_
  · simp
  · simp only [has, hh, chEq, and_true]
    exact ⟨hnm, by simp, trivial, trivial, fun i hi => by rw [hf i hi]; simp [rnm, eqv]⟩
  · simp [slot, lkL, fixed, rg, renH, chEq, lookH, eqvL, eqv, eqvF, rnmL, rnm, liveN, Chunk.live, goodH, Chunk.good, okL, ok, sz, szL, storL, stor, renT, okT, has, upG, up, nth, roOk, keepsLive, Chunk.wr, lay, rnmC, putH]
  · simp [slot, lkL, fixed, rg, renH, chEq, lookH, eqvL, eqv, eqvF, rnmL, rnm, liveN, Chunk.live, goodH, Chunk.good, okL, ok, sz, szL, storL, stor, renT, okT, has, upG, up, nth, roOk, keepsLive, Chunk.wr, lay, rnmC, putH]
  · simp [slot, lkL, fixed, rg, renH, chEq, lookH, eqvL, eqv, eqvF, rnmL, rnm, liveN, Chunk.live, goodH, Chunk.good, okL, ok, sz, szL, storL, stor, renT, okT, has, upG, up, nth, roOk, keepsLive, Chunk.wr, lay, rnmC, putH]
  · rintro v h' ⟨rfl, rfl⟩
    refine ⟨by simp [slot, lkL, fixed, rg, renH, chEq, lookH, eqvL, eqv, eqvF, rnmL, rnm, liveN, Chunk.live, goodH, Chunk.good, okL, ok, sz, szL, storL, stor, renT, okT, has, upG, up, nth, roOk, keepsLive, Chunk.wr, lay, rnmC, putH], by simp [slot, lkL, fixed, rg, renH, chEq, lookH, eqvL, eqv, eqvF, rnmL, rnm, liveN, Chunk.live, goodH, Chunk.good, okL, ok, sz, szL, storL, stor, renT, okT, has, upG, up, nth, roOk, keepsLive, Chunk.wr, lay, rnmC, putH], ?_⟩
    simpa [rnm, rnmL, lay, Chunk.wr] using hK
theorem res26 : Try.f26.results.toList = [.cell 4 40] := rfl
set_option maxHeartbeats 4000000 in
theorem c26l (key : Int) (m len : Nat) (B : Nat → BitVec 8) (hm : len ≤ m) (hl : len ≤ 70368744177000) (K : Tok → SV → List Chunk → Prop)
    (hK : K .mk (.agg [.int .i64 key, .fam 32 1 fun i => .int .u8 (nat (shaD (9 + len) (sigT key B) i))]) [.row false m 1 fun i => .int .u8 (nat (B i))]) :
    callP Try.prog 26 [.int .i64 key, .osl 0 0 0 1 len] [.row false m 1 fun i => .int .u8 (nat (B i))] K := by
  refine callP_of_code tabOk Try.func26 (by kernel_rfl) rfl (Nat.le_of_ble_eq_true rfl) (codeP_of_vc (pl := np) tabOk follows_mixed (by kernel_rfl) ?_)
  rw [Try.ntmps26]
  have f0 := wrap_key key
  simp -implicitDefEqProofs (maxSteps := 1000000) (disch := omega) only [↓vcB, ↓gd, ↓opP, ↓qv, ↓ef, ↓bslS, ↓stS, ↓mkS, ↓mupS, ↓appS, ↓s2bS, ↓resS, evB, Sx.look, slot, ↓lkL, putS, putO, argsL, ↓reduceIte, ofV, of1, lookH, putH, List.length_cons, List.length_nil, List.length_append, List.replicate, List.append, List.cons_append, List.nil_append, List.append_assoc, List.map_cons, List.map_nil, convS, fldA, nthT, idxA, idxS, fldS, oslN, bnd, slS, unS, valI, lenS, lookS, takeC, parts, asRow, single, rdF, Ent.row, ldS, sz, szL, wrF, bldF, plT, bldS, srcS, nilS, nilEq, binS2, structS, eqL, eqF, binS, arrS, isI, tupS, stor, storL, Value.oneCell', minS, maxS, capS, true_and, and_true, Nat.reduceAdd, Nat.reduceSub, Nat.reduceMul, Nat.reduceLT, Nat.reduceLeDiff, Nat.reduceEqDiff, Nat.reduceBEq, Int.reduceToNat, Int.reduceNeg, Nat.zero_add, Nat.add_zero, Nat.sub_self, Nat.sub_zero, Nat.zero_mul, Nat.mul_one, Nat.zero_le, if_true, if_false, reduceIte, stays, inL, same1, qn, ldN, convN, lenN, List.mem_cons, List.not_mem_nil, Option.map_some, Option.map_none, cond_true, cond_false, Sx.imp_true, Sx.imp_false, implies_true, Int.reduceEq, Int.reduceNe, Int.reduceLE, Int.reduceLT, decide_true, decide_false, List.zipIdx_cons, List.zipIdx_nil, or_false, false_or, forall_eq_or_imp, forall_eq, ne_eq, reduceCtorEq, not_false_eq_true, Bool.false_eq_true, Bool.true_eq_false, Bool.not_true, Bool.not_false, notInt, numB, tabB, Array.reduceGetElem?, res26]
  refine codeP_loop (pl := np) tabOk follows_mixed (by kernel_rfl) (fun k' s => ∃ (k : Nat) (j : Nat → Value), k + k' = 8 ∧ s = ⟨⟨28, [(0, .int .i64 key), (1, .osl 0 0 0 1 len), (4, .ptr 1 0), (5, .osl 2 0 0 1 (1 + k)), (6, .int .i64 (7 - (k : Nat)))], j⟩, [.row false m 1 fun i => .int .u8 (nat (B i)), .cells true [.int .i64 0, .fam 32 1 fun _ => .int .u8 0], .row true (1 + k) 1 fun i => .int .u8 (nat (sigH key i))], []⟩) ?_ ?_
  · refine into_mk [some 0, some 1, some 2] [(0, .int .i64 key), (1, .osl 0 0 0 1 len), (4, .ptr 1 0), (5, .osl 2 0 0 1 (1 + 0)), (6, .int .i64 (7 - (0 : Nat)))] [.row false m 1 fun i => .int .u8 (nat (B i)), .cells true [.int .i64 0, .fam 32 1 fun _ => .int .u8 0], .row true (1 + 0) 1 fun i => .int .u8 (nat (sigH key i))] ?_ ?_ ?_ ?_ ?_ ?_ ?_ ?_
    · simp [slot, lkL, fixed, rg, renH, chEq, lookH, eqvL, eqv, eqvF, rnmL, rnm, liveN, Chunk.live, goodH, Chunk.good, okL, ok, sz, szL, storL, stor, renT, okT]
    · simp [slot, lkL, fixed, rg, renH, chEq, lookH, eqvL, eqv, eqvF, rnmL, rnm, liveN, Chunk.live, goodH, Chunk.good, okL, ok, sz, szL, storL, stor, renT, okT]
    · simp [slot, lkL, fixed, rg, renH, chEq, lookH, eqvL, eqv, eqvF, rnmL, rnm, liveN, Chunk.live, goodH, Chunk.good, okL, ok, sz, szL, storL, stor, renT, okT, sigH, Sx.look, nat]
    · simp [slot, lkL, fixed, rg, renH, chEq, lookH, eqvL, eqv, eqvF, rnmL, rnm, liveN, Chunk.live, goodH, Chunk.good, okL, ok, sz, szL, storL, stor, renT, okT]
    · simp [slot, lkL, fixed, rg, renH, chEq, lookH, eqvL, eqv, eqvF, rnmL, rnm, liveN, Chunk.live, goodH, Chunk.good, okL, ok, sz, szL, storL, stor, renT, okT]
    · simp [slot, lkL, fixed, rg, renH, chEq, lookH, eqvL, eqv, eqvF, rnmL, rnm, liveN, Chunk.live, goodH, Chunk.good, okL, ok, sz, szL, storL, stor, renT, okT]
    · simp [slot, lkL, fixed, rg, renH, chEq, lookH, eqvL, eqv, eqvF, rnmL, rnm, liveN, Chunk.live, goodH, Chunk.good, okL, ok, sz, szL, storL, stor, renT, okT]
    · intro j
      exact ⟨8, 0, j, by omega, rfl⟩
  · rintro k' s ⟨k, j, hk, rfl⟩
    by_cases hk8 : k = 8
    · subst hk8
      have f3 : (decide ((7 - ((8 : Nat) : Int)) ≥ 0)) = false := by decide
      simp -implicitDefEqProofs (maxSteps := 1000000) (disch := omega) only [↓vcB, ↓gd, ↓opP, ↓qv, ↓ef, ↓bslS, ↓stS, ↓mkS, ↓mupS, ↓appS, ↓s2bS, ↓resS, evB, Sx.look, slot, ↓lkL, putS, putO, argsL, ↓reduceIte, ofV, of1, lookH, putH, List.length_cons, List.length_nil, List.length_append, List.replicate, List.append, List.cons_append, List.nil_append, List.append_assoc, List.map_cons, List.map_nil, convS, fldA, nthT, idxA, idxS, fldS, oslN, bnd, slS, unS, valI, lenS, lookS, takeC, parts, asRow, single, rdF, Ent.row, ldS, sz, szL, wrF, bldF, plT, bldS, srcS, nilS, nilEq, binS2, structS, eqL, eqF, binS, arrS, isI, tupS, stor, storL, Value.oneCell', minS, maxS, capS, true_and, and_true, Nat.reduceAdd, Nat.reduceSub, Nat.reduceMul, Nat.reduceLT, Nat.reduceLeDiff, Nat.reduceEqDiff, Nat.reduceBEq, Int.reduceToNat, Int.reduceNeg, Nat.zero_add, Nat.add_zero, Nat.sub_self, Nat.sub_zero, Nat.zero_mul, Nat.mul_one, Nat.zero_le, if_true, if_false, reduceIte, stays, inL, same1, qn, ldN, convN, lenN, List.mem_cons, List.not_mem_nil, Option.map_some, Option.map_none, cond_true, cond_false, Sx.imp_true, Sx.imp_false, implies_true, Int.reduceEq, Int.reduceNe, Int.reduceLE, Int.reduceLT, decide_true, decide_false, List.zipIdx_cons, List.zipIdx_nil, or_false, false_or, forall_eq_or_imp, forall_eq, ne_eq, reduceCtorEq, not_false_eq_true, Bool.false_eq_true, Bool.true_eq_false, Bool.not_true, Bool.not_false, notInt, numB, tabB, Array.reduceGetElem?, res26, f3]
      have hrow : ∀ i, i < 9 + len → (if i < 9 then SV.int IntKind.u8 (nat (sigH key i)) else SV.int IntKind.u8 (nat (B (i - 9)))) = .int .u8 (nat (sigT key B i)) := fun i _ => by
        simp only [sigT]
        split <;> rfl
      obtain ⟨F, hF⟩ : ∃ F : Nat → SV, (fun i => SV.int .u8 (nat (shaD (9 + len) (sigT key B) i))) = F := ⟨_, rfl⟩
      have hF' : ∀ i, F i = .int .u8 (nat (shaD (9 + len) (sigT key B) i)) := fun i => by rw [← hF]
      rw [hF] at hK
      refine ⟨⟨hm, by omega, by omega⟩, c23' (9 + len) (9 + len) (sigT key B) _ hrow (by omega) (by omega) true rfl (by simp) F hF _ ?_⟩
      simp -implicitDefEqProofs (maxSteps := 1000000) (disch := omega) only [↓vcB, ↓gd, ↓opP, ↓qv, ↓ef, ↓bslS, ↓stS, ↓mkS, ↓mupS, ↓appS, ↓s2bS, ↓resS, evB, Sx.look, slot, ↓lkL, putS, putO, argsL, ↓reduceIte, ofV, of1, lookH, putH, List.length_cons, List.length_nil, List.length_append, List.replicate, List.append, List.cons_append, List.nil_append, List.append_assoc, List.map_cons, List.map_nil, convS, fldA, nthT, idxA, idxS, fldS, oslN, bnd, slS, unS, valI, lenS, lookS, takeC, parts, asRow, single, rdF, Ent.row, ldS, sz, szL, wrF, bldF, plT, bldS, srcS, nilS, nilEq, binS2, structS, eqL, eqF, binS, arrS, isI, tupS, stor, storL, Value.oneCell', minS, maxS, capS, true_and, and_true, Nat.reduceAdd, Nat.reduceSub, Nat.reduceMul, Nat.reduceLT, Nat.reduceLeDiff, Nat.reduceEqDiff, Nat.reduceBEq, Int.reduceToNat, Int.reduceNeg, Nat.zero_add, Nat.add_zero, Nat.sub_self, Nat.sub_zero, Nat.zero_mul, Nat.mul_one, Nat.zero_le, if_true, if_false, reduceIte, stays, inL, same1, qn, ldN, convN, lenN, List.mem_cons, List.not_mem_nil, Option.map_some, Option.map_none, cond_true, cond_false, Sx.imp_true, Sx.imp_false, implies_true, Int.reduceEq, Int.reduceNe, Int.reduceLE, Int.reduceLT, decide_true, decide_false, List.zipIdx_cons, List.zipIdx_nil, or_false, false_or, forall_eq_or_imp, forall_eq, ne_eq, reduceCtorEq, not_false_eq_true, Bool.false_eq_true, Bool.true_eq_false, Bool.not_true, Bool.not_false, notInt, numB, tabB, Array.reduceGetElem?, res26, hF']
      exact intoR_take [.row false m 1 fun i => .int .u8 (nat (B i))] rfl rfl (by simp [slot, lkL, fixed, rg, renH, chEq, lookH, eqvL, eqv, eqvF, rnmL, rnm, liveN, Chunk.live, goodH, Chunk.good, okL, ok, sz, szL, storL, stor, renT, okT]) (by simp [slot, lkL, fixed, rg, renH, chEq, lookH, eqvL, eqv, eqvF, rnmL, rnm, liveN, Chunk.live, goodH, Chunk.good, okL, ok, sz, szL, storL, stor, renT, okT, hF']) hK
    · have f1' : IntKind.i64.wrap (8 * (7 - (k : Int))) = ((8 * (7 - k) : Nat) : Int) := by rw [wrap64 (by omega) (by omega)]; omega
      have f2 : IntKind.i64.wrap ((7 - (k : Int)) - 1) = 7 - ((k + 1 : Nat) : Int) := by rw [wrap64 (by omega) (by omega)]; omega
      have f3 : (decide ((7 - (k : Int)) ≥ 0)) = true := by simp; omega
      have f4 : IntKind.u64.wrap ((8 * (7 - k) : Nat) : Int) = ((8 * (7 - k) : Nat) : Int) := Go.Sx.wrap_small (k := .u64) rfl (by omega) (by rw [show IntKind.u64.bits = 64 from rfl]; omega)
      have f5 := shr64 (BitVec.ofInt 64 key) (8 * (7 - k)) (by omega)
      simp -implicitDefEqProofs (maxSteps := 1000000) (disch := omega) only [↓vcB, ↓gd, ↓opP, ↓qv, ↓ef, ↓bslS, ↓stS, ↓mkS, ↓mupS, ↓appS, ↓s2bS, ↓resS, evB, Sx.look, slot, ↓lkL, putS, putO, argsL, ↓reduceIte, ofV, of1, lookH, putH, List.length_cons, List.length_nil, List.length_append, List.replicate, List.append, List.cons_append, List.nil_append, List.append_assoc, List.map_cons, List.map_nil, convS, fldA, nthT, idxA, idxS, fldS, oslN, bnd, slS, unS, valI, lenS, lookS, takeC, parts, asRow, single, rdF, Ent.row, ldS, sz, szL, wrF, bldF, plT, bldS, srcS, nilS, nilEq, binS2, structS, eqL, eqF, binS, arrS, isI, tupS, stor, storL, Value.oneCell', minS, maxS, capS, true_and, and_true, Nat.reduceAdd, Nat.reduceSub, Nat.reduceMul, Nat.reduceLT, Nat.reduceLeDiff, Nat.reduceEqDiff, Nat.reduceBEq, Int.reduceToNat, Int.reduceNeg, Nat.zero_add, Nat.add_zero, Nat.sub_self, Nat.sub_zero, Nat.zero_mul, Nat.mul_one, Nat.zero_le, if_true, if_false, reduceIte, stays, inL, same1, qn, ldN, convN, lenN, List.mem_cons, List.not_mem_nil, Option.map_some, Option.map_none, cond_true, cond_false, Sx.imp_true, Sx.imp_false, implies_true, Int.reduceEq, Int.reduceNe, Int.reduceLE, Int.reduceLT, decide_true, decide_false, List.zipIdx_cons, List.zipIdx_nil, or_false, false_or, forall_eq_or_imp, forall_eq, ne_eq, reduceCtorEq, not_false_eq_true, Bool.false_eq_true, Bool.true_eq_false, Bool.not_true, Bool.not_false, notInt, numB, tabB, Array.reduceGetElem?, res26, f0, f1', f2, f3, f4, f5, Int.toNat_natCast]
      and_intros <;> try omega
      refine into_mk [some 0, some 1, some 4] [(0, .int .i64 key), (1, .osl 0 0 0 1 len), (4, .ptr 1 0), (5, .osl 2 0 0 1 (1 + (k + 1))), (6, .int .i64 (7 - (k + 1 : Nat)))] [.row false m 1 fun i => .int .u8 (nat (B i)), .cells true [.int .i64 0, .fam 32 1 fun _ => .int .u8 0], .row true (1 + (k + 1)) 1 fun i => .int .u8 (nat (sigH key i))] ?_ ?_ ?_ ?_ ?_ ?_ ?_ ?_
      · simp [slot, lkL, fixed, rg, renH, chEq, lookH, eqvL, eqv, eqvF, rnmL, rnm, liveN, Chunk.live, goodH, Chunk.good, okL, ok, sz, szL, storL, stor, renT, okT]
      · simp [slot, lkL, fixed, rg, renH, chEq, lookH, eqvL, eqv, eqvF, rnmL, rnm, liveN, Chunk.live, goodH, Chunk.good, okL, ok, sz, szL, storL, stor, renT, okT]
      · simp [slot, lkL, fixed, rg, renH, chEq, lookH, eqvL, eqv, eqvF, rnmL, rnm, liveN, Chunk.live, goodH, Chunk.good, okL, ok, sz, szL, storL, stor, renT, okT]
        refine ⟨by omega, fun i hi => ?_⟩
        by_cases h : i < 1 + k
        · simp [h, eqv]
        · have h2 : i = 1 + k := by omega
          subst h2
          simp [sigH, keyB, eqv, Sx.look]
      · simp [slot, lkL, fixed, rg, renH, chEq, lookH, eqvL, eqv, eqvF, rnmL, rnm, liveN, Chunk.live, goodH, Chunk.good, okL, ok, sz, szL, storL, stor, renT, okT]
      · simp [slot, lkL, fixed, rg, renH, chEq, lookH, eqvL, eqv, eqvF, rnmL, rnm, liveN, Chunk.live, goodH, Chunk.good, okL, ok, sz, szL, storL, stor, renT, okT]
      · simp [slot, lkL, fixed, rg, renH, chEq, lookH, eqvL, eqv, eqvF, rnmL, rnm, liveN, Chunk.live, goodH, Chunk.good, okL, ok, sz, szL, storL, stor, renT, okT]
        try omega
      · simp [slot, lkL, fixed, rg, renH, chEq, lookH, eqvL, eqv, eqvF, rnmL, rnm, liveN, Chunk.live, goodH, Chunk.good, okL, ok, sz, szL, storL, stor, renT, okT]
      · intro j
        exact ⟨k' - 1, by omega, k + 1, j, by omega, rfl⟩
theorem c26 (key : Int) (m len : Nat) (B : Nat → BitVec 8) (f : Nat → SV) (hf : ∀ i, i < m → f i = .int .u8 (nat (B i))) (hm : len ≤ m) (hl : len ≤ 70368744177000) {h : List Chunk} {nm : Nat} (wr : Bool) (hh : lookH h nm = .row wr m 1 f) (hnm : nm < h.length) (F : Nat → SV) (hF : (fun i => SV.int .u8 (nat (shaD (9 + len) (sigT key B) i))) = F) (K : Tok → SV → List Chunk → Prop)
    (hK : K .mk (.agg [.int .i64 key, .fam 32 1 F]) h) : callP Try.prog 26 [.int .i64 key, .osl nm 0 0 1 len] h K := by
  subst hF
  refine callP_frame (argsL := [.int .i64 key, .osl 0 0 0 1 len]) (KL := fun _ v h' => v = .agg [.int .i64 key, .fam 32 1 fun i => .int .u8 (nat (shaD (9 + len) (sigT key B) i))] ∧ h' = [.row false m 1 fun i => .int .u8 (nat (B i))]) [nm] (c26l key m len B hm hl _ ⟨rfl, rfl⟩) ?_ ?_ ?_ ?_ ?_ ?_
  · simp
  · simp only [has, hh, chEq, and_true]
    exact ⟨hnm, by simp, trivial, trivial, fun i hi => by rw [hf i hi]; simp [rnm, eqv]⟩
  · simp [slot, lkL, fixed, rg, renH, chEq, lookH, eqvL, eqv, eqvF, rnmL, rnm, liveN, Chunk.live, goodH, Chunk.good, okL, ok, sz, szL, storL, stor, renT, okT, has, upG, up, nth, roOk, keepsLive, Chunk.wr, lay, rnmC, putH]
  · simp [slot, lkL, fixed, rg, renH, chEq, lookH, eqvL, eqv, eqvF, rnmL, rnm, liveN, Chunk.live, goodH, Chunk.good, okL, ok, sz, szL, storL, stor, renT, okT, has, upG, up, nth, roOk, keepsLive, Chunk.wr, lay, rnmC, putH]
  · simp [slot, lkL, fixed, rg, renH, chEq, lookH, eqvL, eqv, eqvF, rnmL, rnm, liveN, Chunk.live, goodH, Chunk.good, okL, ok, sz, szL, storL, stor, renT, okT, has, upG, up, nth, roOk, keepsLive, Chunk.wr, lay, rnmC, putH]
  · rintro v h' ⟨rfl, rfl⟩
    refine ⟨by simp [slot, lkL, fixed, rg, renH, chEq, lookH, eqvL, eqv, eqvF, rnmL, rnm, liveN, Chunk.live, goodH, Chunk.good, okL, ok, sz, szL, storL, stor, renT, okT, has, upG, up, nth, roOk, keepsLive, Chunk.wr, lay, rnmC, putH], by simp [slot, lkL, fixed, rg, renH, chEq, lookH, eqvL, eqv, eqvF, rnmL, rnm, liveN, Chunk.live, goodH, Chunk.good, okL, ok, sz, szL, storL, stor, renT, okT, has, upG, up, nth, roOk, keepsLive, Chunk.wr, lay, rnmC, putH], ?_⟩
    simpa [rnm, rnmL, lay, Chunk.wr] using hK
end Go.Proofs.Ytbjelfgclhmedaa
