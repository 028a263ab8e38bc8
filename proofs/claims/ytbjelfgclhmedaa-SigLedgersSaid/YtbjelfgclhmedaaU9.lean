/- Contracts of functions that the laws reach, by the symbolic executor of the texts Sxa to Sxt. No condition. -/
import Derived.Test.YtbjelfgclhmedaaAbc
set_option linter.all false
set_option maxRecDepth 40000
namespace Go.Proofs.Ytbjelfgclhmedaa
open Go Go.Sx

def pl24 : Nat → Plan
  | 5 => (.q 0 (.q 1 (.q 2 (.q 3 (.q 4 (.q 5 (.q 6 (.e1 7 [] (.e1 8 [] (.q 9 .nil))))))))))
  | _ => .nil


theorem res24 : Try.f24.results.toList = [.tmp 2] := rfl
theorem c24l (D : Nat → BitVec 8) (K : Tok → SV → List Chunk → Prop) (hK : K .mk (.str (strOf 64 (hexF D))) []) : callP Try.prog 24 [.fam 32 1 fun i => .int .u8 (nat (D i))] [] K := by
  refine callP_of_code tabOk Try.func24 (by kernel_rfl) rfl (Nat.le_of_ble_eq_true rfl) (codeP_of_vc (pl := pl24) tabOk follows_mixed (by kernel_rfl) ?_)
  rw [Try.ntmps24]
  simp -implicitDefEqProofs (maxSteps := 1000000) (disch := omega) only [↓vcB, ↓gd, ↓opP, ↓qv, ↓ef, ↓bslS, ↓stS, ↓mkS, ↓mupS, ↓appS, ↓s2bS, ↓resS, evB, Sx.look, slot, ↓lkL, putS, putO, argsL, ↓reduceIte, ofV, of1, lookH, putH, List.length_cons, List.length_nil, List.length_append, List.replicate, List.append, List.cons_append, List.nil_append, List.append_assoc, List.map_cons, List.map_nil, convS, fldA, nthT, idxA, idxS, fldS, oslN, bnd, slS, unS, valI, lenS, lookS, takeC, parts, asRow, single, rdF, Ent.row, ldS, sz, szL, wrF, bldF, plT, bldS, srcS, nilS, nilEq, binS2, structS, eqL, eqF, binS, arrS, isI, tupS, stor, storL, Value.oneCell', minS, maxS, capS, true_and, and_true, Nat.reduceAdd, Nat.reduceSub, Nat.reduceMul, Nat.reduceLT, Nat.reduceLeDiff, Nat.reduceEqDiff, Nat.reduceBEq, Int.reduceToNat, Int.reduceNeg, Nat.zero_add, Nat.add_zero, Nat.sub_self, Nat.sub_zero, Nat.zero_mul, Nat.mul_one, Nat.zero_le, if_true, if_false, reduceIte, stays, inL, same1, qn, ldN, convN, lenN, List.mem_cons, List.not_mem_nil, Option.map_some, Option.map_none, cond_true, cond_false, Sx.imp_true, Sx.imp_false, implies_true, Int.reduceEq, Int.reduceNe, Int.reduceLE, Int.reduceLT, decide_true, decide_false, List.zipIdx_cons, List.zipIdx_nil, or_false, false_or, forall_eq_or_imp, forall_eq, ne_eq, reduceCtorEq, not_false_eq_true, Bool.false_eq_true, Bool.true_eq_false, Bool.not_true, Bool.not_false, notInt, numB, tabB, Array.reduceGetElem?, res24]
  refine codeP_loop (pl := pl24) tabOk follows_mixed (by kernel_rfl) (fun m s => ∃ (k : Nat) (j : Nat → Value), k + m = 32 ∧ s = ⟨⟨22, [(3, .osl 0 0 0 1 (2 * k)), (6, .fam 32 1 fun i => .int .u8 (nat (D i))), (7, .int .i64 (k : Nat))], j⟩, [.row true (2 * k) 1 fun i => .int .u8 (nat (hexF D i))], []⟩) ?_ ?_
  · refine into_mk [none] [(3, .osl 0 0 0 1 (2 * 0)), (6, .fam 32 1 fun i => .int .u8 (nat (D i))), (7, .int .i64 (0 : Nat))] [.row true (2 * 0) 1 fun i => .int .u8 (nat (hexF D i))] ?_ ?_ ?_ ?_ ?_ ?_ ?_ ?_
    · simp [slot, lkL, fixed, rg, renH, chEq, lookH, eqvL, eqv, eqvF, rnmL, rnm, liveN, Chunk.live, goodH, Chunk.good, okL, ok, sz, szL, storL, stor, renT, okT]
    · simp [slot, lkL, fixed, rg, renH, chEq, lookH, eqvL, eqv, eqvF, rnmL, rnm, liveN, Chunk.live, goodH, Chunk.good, okL, ok, sz, szL, storL, stor, renT, okT]
    · simp [slot, lkL, fixed, rg, renH, chEq, lookH, eqvL, eqv, eqvF, rnmL, rnm, liveN, Chunk.live, goodH, Chunk.good, okL, ok, sz, szL, storL, stor, renT, okT]
    · simp [slot, lkL, fixed, rg, renH, chEq, lookH, eqvL, eqv, eqvF, rnmL, rnm, liveN, Chunk.live, goodH, Chunk.good, okL, ok, sz, szL, storL, stor, renT, okT]
    · simp [slot, lkL, fixed, rg, renH, chEq, lookH, eqvL, eqv, eqvF, rnmL, rnm, liveN, Chunk.live, goodH, Chunk.good, okL, ok, sz, szL, storL, stor, renT, okT]
    · simp [slot, lkL, fixed, rg, renH, chEq, lookH, eqvL, eqv, eqvF, rnmL, rnm, liveN, Chunk.live, goodH, Chunk.good, okL, ok, sz, szL, storL, stor, renT, okT]
    · simp [slot, lkL, fixed, rg, renH, chEq, lookH, eqvL, eqv, eqvF, rnmL, rnm, liveN, Chunk.live, goodH, Chunk.good, okL, ok, sz, szL, storL, stor, renT, okT]
    · intro j
      exact ⟨32, 0, j, by omega, rfl⟩
  · rintro m s ⟨k, j, hk, rfl⟩
    have a0 : IntKind.i64.wrap ((k : Int) + 1) = ((k + 1 : Nat) : Int) := by rw [wrap64 (by omega) (by omega)]; omega
    simp -implicitDefEqProofs (maxSteps := 1000000) (disch := omega) only [↓vcB, ↓gd, ↓opP, ↓qv, ↓ef, ↓bslS, ↓stS, ↓mkS, ↓mupS, ↓appS, ↓s2bS, ↓resS, evB, Sx.look, slot, ↓lkL, putS, putO, argsL, ↓reduceIte, ofV, of1, lookH, putH, List.length_cons, List.length_nil, List.length_append, List.replicate, List.append, List.cons_append, List.nil_append, List.append_assoc, List.map_cons, List.map_nil, convS, fldA, nthT, idxA, idxS, fldS, oslN, bnd, slS, unS, valI, lenS, lookS, takeC, parts, asRow, single, rdF, Ent.row, ldS, sz, szL, wrF, bldF, plT, bldS, srcS, nilS, nilEq, binS2, structS, eqL, eqF, binS, arrS, isI, tupS, stor, storL, Value.oneCell', minS, maxS, capS, true_and, and_true, Nat.reduceAdd, Nat.reduceSub, Nat.reduceMul, Nat.reduceLT, Nat.reduceLeDiff, Nat.reduceEqDiff, Nat.reduceBEq, Int.reduceToNat, Int.reduceNeg, Nat.zero_add, Nat.add_zero, Nat.sub_self, Nat.sub_zero, Nat.zero_mul, Nat.mul_one, Nat.zero_le, if_true, if_false, reduceIte, stays, inL, same1, qn, ldN, convN, lenN, List.mem_cons, List.not_mem_nil, Option.map_some, Option.map_none, cond_true, cond_false, Sx.imp_true, Sx.imp_false, implies_true, Int.reduceEq, Int.reduceNe, Int.reduceLE, Int.reduceLT, decide_true, decide_false, List.zipIdx_cons, List.zipIdx_nil, or_false, false_or, forall_eq_or_imp, forall_eq, ne_eq, reduceCtorEq, not_false_eq_true, Bool.false_eq_true, Bool.true_eq_false, Bool.not_true, Bool.not_false, notInt, numB, tabB, ↓Array.reduceGetElem?, pl24, a0, andlit8, digHi, digLo, Int.toNat_natCast, res24]
    refine ⟨Sx.imp_intro fun hc' => ?_, Sx.imp_intro fun hc' => ?_⟩
    · have hk3 : k < 32 := by have := of_decide_eq_true hc'; omega
      have n1 := nat_nonneg (D k >>> 4)
      have n2 := nat_nonneg (D k &&& 15#8)
      have n3 : nat (D k >>> 4) < 16 := (by decide : ∀ x : BitVec 8, nat (x >>> 4) < 16) (D k)
      have n4 : nat (D k &&& 15#8) < 16 := (by decide : ∀ x : BitVec 8, nat (x &&& 15#8) < 16) (D k)
      have n5 : (ByteArray.mk #[48, 49, 50, 51, 52, 53, 54, 55, 56, 57, 97, 98, 99, 100, 101, 102]).size = 16 := rfl
      rw [n5]
      and_intros <;> try omega
      refine into_mk [some 2] [(3, .osl 0 0 0 1 (2 * (k + 1))), (6, .fam 32 1 fun i => .int .u8 (nat (D i))), (7, .int .i64 (k + 1 : Nat))] [.row true (2 * (k + 1)) 1 fun i => .int .u8 (nat (hexF D i))] ?_ ?_ ?_ ?_ ?_ ?_ ?_ ?_
      · simp [slot, lkL, fixed, rg, renH, chEq, lookH, eqvL, eqv, eqvF, rnmL, rnm, liveN, Chunk.live, goodH, Chunk.good, okL, ok, sz, szL, storL, stor, renT, okT]
      · simp [slot, lkL, fixed, rg, renH, chEq, lookH, eqvL, eqv, eqvF, rnmL, rnm, liveN, Chunk.live, goodH, Chunk.good, okL, ok, sz, szL, storL, stor, renT, okT]
      · simp [slot, lkL, fixed, rg, renH, chEq, lookH, eqvL, eqv, eqvF, rnmL, rnm, liveN, Chunk.live, goodH, Chunk.good, okL, ok, sz, szL, storL, stor, renT, okT]
        refine ⟨by omega, fun i hi => ?_⟩
        by_cases h : i < 2 * k
        · simp [h, eqv]
        by_cases h2 : i = 2 * k
        · subst h2
          simp [hexF, eqv, Sx.look, show (2 * k) % 2 = 0 by omega, show (2 * k) / 2 = k by omega]
        · have h3 : i = 2 * k + 1 := by omega
          subst h3
          simp [hexF, eqv, Sx.look, show (2 * k + 1) % 2 = 1 by omega, show (2 * k + 1) / 2 = k by omega]
      · simp [slot, lkL, fixed, rg, renH, chEq, lookH, eqvL, eqv, eqvF, rnmL, rnm, liveN, Chunk.live, goodH, Chunk.good, okL, ok, sz, szL, storL, stor, renT, okT]
      · simp [slot, lkL, fixed, rg, renH, chEq, lookH, eqvL, eqv, eqvF, rnmL, rnm, liveN, Chunk.live, goodH, Chunk.good, okL, ok, sz, szL, storL, stor, renT, okT]
      · simp [slot, lkL, fixed, rg, renH, chEq, lookH, eqvL, eqv, eqvF, rnmL, rnm, liveN, Chunk.live, goodH, Chunk.good, okL, ok, sz, szL, storL, stor, renT, okT]
        try omega
      · simp [slot, lkL, fixed, rg, renH, chEq, lookH, eqvL, eqv, eqvF, rnmL, rnm, liveN, Chunk.live, goodH, Chunk.good, okL, ok, sz, szL, storL, stor, renT, okT]
      · intro j
        exact ⟨m - 1, by omega, k + 1, j, by omega, rfl⟩
    · have hk4 : k = 32 := by have := of_decide_eq_false hc'; omega
      subst hk4
      refine ⟨by omega, intoR_take [] rfl rfl trivial trivial hK⟩

theorem c24 (D : Nat → BitVec 8) {h : List Chunk} (K : Tok → SV → List Chunk → Prop) (hK : K .mk (.str (strOf 64 (hexF D))) h) : callP Try.prog 24 [.fam 32 1 fun i => .int .u8 (nat (D i))] h K := by
  refine callP_frame (argsL := [.fam 32 1 fun i => .int .u8 (nat (D i))]) (KL := fun _ v h' => v = .str (strOf 64 (hexF D)) ∧ h' = []) [] (c24l D _ ⟨rfl, rfl⟩) List.nodup_nil trivial trivial (by simp [slot, lkL, fixed, rg, renH, chEq, lookH, eqvL, eqv, eqvF, rnmL, rnm, liveN, Chunk.live, goodH, Chunk.good, okL, ok, sz, szL, storL, stor, renT, okT, has, upG, up, nth, roOk, keepsLive, Chunk.wr, lay, rnmC, putH]) rfl ?_
  rintro v h' ⟨rfl, rfl⟩
  refine ⟨by simp [slot, lkL, fixed, rg, renH, chEq, lookH, eqvL, eqv, eqvF, rnmL, rnm, liveN, Chunk.live, goodH, Chunk.good, okL, ok, sz, szL, storL, stor, renT, okT, has, upG, up, nth, roOk, keepsLive, Chunk.wr, lay, rnmC, putH], trivial, ?_⟩
  simpa [rnm, lay] using hK

theorem c20' (m len : Nat) (B : Nat → BitVec 8) (f : Nat → SV) (hf : ∀ i, i < m → f i = .int .u8 (nat (B i))) (hm : len ≤ m) (hl : len ≤ 70368744177664) {h : List Chunk} {nm : Nat} (wr : Bool) (hh : lookH h nm = .row wr m 1 f) (hnm : nm < h.length) (K : Tok → SV → List Chunk → Prop)
    (hK : K .mk (.fam 32 1 fun i => .int .u8 (nat (shaD len B i))) h) : callP Try.prog 20 [.osl nm 0 0 1 len] h K := by
  refine callP_frame (argsL := [.osl 0 0 0 1 len]) (KL := fun _ v h' => v = .fam 32 1 (fun i => .int .u8 (nat (shaD len (fun i => B (0 + i)) i))) ∧ h' = [.row false m 1 fun i => .int .u8 (nat (B i))]) [nm] (c20l m 0 0 len B (by omega) hl _ ⟨rfl, rfl⟩) ?_ ?_ ?_ ?_ ?_ ?_
  · simp
  · simp only [has, hh, chEq, and_true]
    exact ⟨hnm, by simp, trivial, trivial, fun i hi => by rw [hf i hi]; simp [rnm, eqv]⟩
  · simp [slot, lkL, fixed, rg, renH, chEq, lookH, eqvL, eqv, eqvF, rnmL, rnm, liveN, Chunk.live, goodH, Chunk.good, okL, ok, sz, szL, storL, stor, renT, okT, has, upG, up, nth, roOk, keepsLive, Chunk.wr, lay, rnmC, putH]
  · simp [slot, lkL, fixed, rg, renH, chEq, lookH, eqvL, eqv, eqvF, rnmL, rnm, liveN, Chunk.live, goodH, Chunk.good, okL, ok, sz, szL, storL, stor, renT, okT, has, upG, up, nth, roOk, keepsLive, Chunk.wr, lay, rnmC, putH]
  · simp [slot, lkL, fixed, rg, renH, chEq, lookH, eqvL, eqv, eqvF, rnmL, rnm, liveN, Chunk.live, goodH, Chunk.good, okL, ok, sz, szL, storL, stor, renT, okT, has, upG, up, nth, roOk, keepsLive, Chunk.wr, lay, rnmC, putH]
  · rintro v h' ⟨rfl, rfl⟩
    refine ⟨by simp [slot, lkL, fixed, rg, renH, chEq, lookH, eqvL, eqv, eqvF, rnmL, rnm, liveN, Chunk.live, goodH, Chunk.good, okL, ok, sz, szL, storL, stor, renT, okT, has, upG, up, nth, roOk, keepsLive, Chunk.wr, lay, rnmC, putH], by simp [slot, lkL, fixed, rg, renH, chEq, lookH, eqvL, eqv, eqvF, rnmL, rnm, liveN, Chunk.live, goodH, Chunk.good, okL, ok, sz, szL, storL, stor, renT, okT, has, upG, up, nth, roOk, keepsLive, Chunk.wr, lay, rnmC, putH], ?_⟩
    simpa [rnm, lay, Chunk.wr] using hK

theorem res18 : Try.f18.results.toList = [.tmp 2] := rfl
theorem c18n {h : List Chunk} (K : Tok → SV → List Chunk → Prop) (hK : K .mk (.int .i64 0) h) : callP Try.prog 18 [.v (.pointer none)] h K := by
  refine callP_of_code tabOk Try.func18 (by kernel_rfl) rfl (Nat.le_of_ble_eq_true rfl) (codeP_of_vc (pl := np) tabOk follows_mixed (by kernel_rfl) ?_)
  rw [Try.ntmps18]
  simp -implicitDefEqProofs (maxSteps := 1000000) (disch := omega) only [↓vcB, ↓gd, ↓opP, ↓qv, ↓ef, ↓bslS, ↓stS, ↓mkS, ↓mupS, ↓appS, ↓s2bS, ↓resS, evB, Sx.look, slot, ↓lkL, putS, putO, argsL, ↓reduceIte, ofV, of1, lookH, putH, List.length_cons, List.length_nil, List.length_append, List.replicate, List.append, List.cons_append, List.nil_append, List.append_assoc, List.map_cons, List.map_nil, convS, fldA, nthT, idxA, idxS, fldS, oslN, bnd, slS, unS, valI, lenS, lookS, takeC, parts, asRow, single, rdF, Ent.row, ldS, sz, szL, wrF, bldF, plT, bldS, srcS, nilS, nilEq, binS2, structS, eqL, eqF, binS, arrS, isI, tupS, stor, storL, Value.oneCell', minS, maxS, capS, true_and, and_true, Nat.reduceAdd, Nat.reduceSub, Nat.reduceMul, Nat.reduceLT, Nat.reduceLeDiff, Nat.reduceEqDiff, Nat.reduceBEq, Int.reduceToNat, Int.reduceNeg, Nat.zero_add, Nat.add_zero, Nat.sub_self, Nat.sub_zero, Nat.zero_mul, Nat.mul_one, Nat.zero_le, if_true, if_false, reduceIte, stays, inL, same1, qn, ldN, convN, lenN, List.mem_cons, List.not_mem_nil, Option.map_some, Option.map_none, cond_true, cond_false, Sx.imp_true, Sx.imp_false, implies_true, Int.reduceEq, Int.reduceNe, Int.reduceLE, Int.reduceLT, decide_true, decide_false, List.zipIdx_cons, List.zipIdx_nil, or_false, false_or, forall_eq_or_imp, forall_eq, ne_eq, reduceCtorEq, not_false_eq_true, Bool.false_eq_true, Bool.true_eq_false, Bool.not_true, Bool.not_false, notInt, numB, tabB, Array.reduceGetElem?, res18, Option.isNone]
  exact intoR_refl (Nat.le_refl _) hK
theorem c17n (x : Value) {h : List Chunk} (K : Tok → SV → List Chunk → Prop) (hK : K .mk (.tup []) h) : callP Try.prog 17 [.v (.pointer none), .v x] h K := by
  refine callP_of_code tabOk Try.func17 (by kernel_rfl) rfl (Nat.le_of_ble_eq_true rfl) (codeP_of_vc (pl := pl17) tabOk follows_mixed (by kernel_rfl) ?_)
  rw [Try.ntmps17]
  simp -implicitDefEqProofs (maxSteps := 1000000) (disch := omega) only [↓vcB, ↓gd, ↓opP, ↓qv, ↓ef, ↓bslS, ↓stS, ↓mkS, ↓mupS, ↓appS, ↓s2bS, ↓resS, evB, Sx.look, slot, ↓lkL, putS, putO, argsL, ↓reduceIte, ofV, of1, lookH, putH, List.length_cons, List.length_nil, List.length_append, List.replicate, List.append, List.cons_append, List.nil_append, List.append_assoc, List.map_cons, List.map_nil, convS, fldA, nthT, idxA, idxS, fldS, oslN, bnd, slS, unS, valI, lenS, lookS, takeC, parts, asRow, single, rdF, Ent.row, ldS, sz, szL, wrF, bldF, plT, bldS, srcS, nilS, nilEq, binS2, structS, eqL, eqF, binS, arrS, isI, tupS, stor, storL, Value.oneCell', minS, maxS, capS, true_and, and_true, Nat.reduceAdd, Nat.reduceSub, Nat.reduceMul, Nat.reduceLT, Nat.reduceLeDiff, Nat.reduceEqDiff, Nat.reduceBEq, Int.reduceToNat, Int.reduceNeg, Nat.zero_add, Nat.add_zero, Nat.sub_self, Nat.sub_zero, Nat.zero_mul, Nat.mul_one, Nat.zero_le, if_true, if_false, reduceIte, stays, inL, same1, qn, ldN, convN, lenN, List.mem_cons, List.not_mem_nil, Option.map_some, Option.map_none, cond_true, cond_false, Sx.imp_true, Sx.imp_false, implies_true, Int.reduceEq, Int.reduceNe, Int.reduceLE, Int.reduceLT, decide_true, decide_false, List.zipIdx_cons, List.zipIdx_nil, or_false, false_or, forall_eq_or_imp, forall_eq, ne_eq, reduceCtorEq, not_false_eq_true, Bool.false_eq_true, Bool.true_eq_false, Bool.not_true, Bool.not_false, notInt, numB, tabB, Array.reduceGetElem?, res17, Option.isNone]
  exact intoR_refl (Nat.le_refl _) hK
theorem c19nl (K : Tok → SV → List Chunk → Prop) (hK : K .mk (.fam 32 1 fun _ => .int .u8 0) []) : callP Try.prog 19 [.v (.pointer none)] [] K := by
  refine callP_of_code tabOk Try.func19 (by kernel_rfl) rfl (Nat.le_of_ble_eq_true rfl) (codeP_of_vc (pl := np) tabOk follows_mixed (by kernel_rfl) ?_)
  rw [Try.ntmps19]
  simp -implicitDefEqProofs (maxSteps := 1000000) (disch := omega) only [↓vcB, ↓gd, ↓opP, ↓qv, ↓ef, ↓bslS, ↓stS, ↓mkS, ↓mupS, ↓appS, ↓s2bS, ↓resS, evB, Sx.look, slot, ↓lkL, putS, putO, argsL, ↓reduceIte, ofV, of1, lookH, putH, List.length_cons, List.length_nil, List.length_append, List.replicate, List.append, List.cons_append, List.nil_append, List.append_assoc, List.map_cons, List.map_nil, convS, fldA, nthT, idxA, idxS, fldS, oslN, bnd, slS, unS, valI, lenS, lookS, takeC, parts, asRow, single, rdF, Ent.row, ldS, sz, szL, wrF, bldF, plT, bldS, srcS, nilS, nilEq, binS2, structS, eqL, eqF, binS, arrS, isI, tupS, stor, storL, Value.oneCell', minS, maxS, capS, true_and, and_true, Nat.reduceAdd, Nat.reduceSub, Nat.reduceMul, Nat.reduceLT, Nat.reduceLeDiff, Nat.reduceEqDiff, Nat.reduceBEq, Int.reduceToNat, Int.reduceNeg, Nat.zero_add, Nat.add_zero, Nat.sub_self, Nat.sub_zero, Nat.zero_mul, Nat.mul_one, Nat.zero_le, if_true, if_false, reduceIte, stays, inL, same1, qn, ldN, convN, lenN, List.mem_cons, List.not_mem_nil, Option.map_some, Option.map_none, cond_true, cond_false, Sx.imp_true, Sx.imp_false, implies_true, Int.reduceEq, Int.reduceNe, Int.reduceLE, Int.reduceLT, decide_true, decide_false, List.zipIdx_cons, List.zipIdx_nil, or_false, false_or, forall_eq_or_imp, forall_eq, ne_eq, reduceCtorEq, not_false_eq_true, Bool.false_eq_true, Bool.true_eq_false, Bool.not_true, Bool.not_false, notInt, numB, tabB, Array.reduceGetElem?, res19, Option.isNone]
  exact intoR_take [] rfl rfl trivial (by simp [slot, lkL, fixed, rg, renH, chEq, lookH, eqvL, eqv, eqvF, rnmL, rnm, liveN, Chunk.live, goodH, Chunk.good, okL, ok, sz, szL, storL, stor, renT, okT]) hK
theorem c19n {h : List Chunk} (K : Tok → SV → List Chunk → Prop) (hK : K .mk (.fam 32 1 fun _ => .int .u8 0) h) : callP Try.prog 19 [.v (.pointer none)] h K := by
  refine callP_frame (argsL := [.v (.pointer none)]) (KL := fun _ v h' => v = .fam 32 1 (fun _ => .int .u8 0) ∧ h' = []) [] (c19nl _ ⟨rfl, rfl⟩) List.nodup_nil trivial trivial (by simp [slot, lkL, fixed, rg, renH, chEq, lookH, eqvL, eqv, eqvF, rnmL, rnm, liveN, Chunk.live, goodH, Chunk.good, okL, ok, sz, szL, storL, stor, renT, okT, has, upG, up, nth, roOk, keepsLive, Chunk.wr, lay, rnmC, putH]) rfl ?_
  rintro v h' ⟨rfl, rfl⟩
  refine ⟨by simp [slot, lkL, fixed, rg, renH, chEq, lookH, eqvL, eqv, eqvF, rnmL, rnm, liveN, Chunk.live, goodH, Chunk.good, okL, ok, sz, szL, storL, stor, renT, okT, has, upG, up, nth, roOk, keepsLive, Chunk.wr, lay, rnmC, putH], trivial, ?_⟩
  simpa [rnm, lay] using hK

theorem strOf_size (n : Nat) (f : Nat → BitVec 8) : (strOf n f).size = n := by simp [strOf, ByteArray.size]
theorem strOf_byte (n : Nat) (f : Nat → BitVec 8) (i : Nat) (hi : i < n) : byteAt (strOf n f) i = nat (f i) := by
  simp only [byteAt, strOf, List.getD, List.getElem?_map, List.getElem?_range hi, Option.map_some, Option.getD_some]
  have h1 := nat_lt (f i)
  have h0 := nat_nonneg (f i)
  simp only [UInt8.toNat_ofNat']
  omega
theorem strOf_bv (n : Nat) (f : Nat → BitVec 8) (i : Nat) (hi : i < n) : bv (strOf n f) i = f i := nat_inj.1 (by rw [← bv_eq, strOf_byte n f i hi])
theorem hex_back (D : Nat → BitVec 8) (i : Nat) (hi : i < 32) : pV (strOf 64 (hexF D)) i = D i ∧ okD (strOf 64 (hexF D)) i := by
  simp only [pV, okD]
  rw [strOf_bv 64 _ (2 * i) (by omega), strOf_bv 64 _ (2 * i + 1) (by omega)]
  simp only [hexF, show (2 * i) % 2 = 0 by omega, show (2 * i + 1) % 2 = 1 by omega, show (2 * i) / 2 = i by omega, show (2 * i + 1) / 2 = i by omega, if_true, show ¬ (1 = 0) by omega, if_false]
  exact (by decide : ∀ x : BitVec 8, nib (hexD (x >>> 4)) <<< 4 ||| nib (hexD (x &&& 15)) = x ∧ nib (hexD (x >>> 4)) ≤ 15 ∧ nib (hexD (x &&& 15)) ≤ 15) (D i)
theorem hex_ok (D : Nat → BitVec 8) : pOk (strOf 64 (hexF D)) := ⟨strOf_size .., fun i hi => (hex_back D i hi).2⟩
theorem hex_pD (D : Nat → BitVec 8) (i : Nat) (hi : i < 32) : pD (strOf 64 (hexF D)) i = D i := by
  simp only [pD, hex_ok D, if_true]
  exact (hex_back D i hi).1
end Go.Proofs.Ytbjelfgclhmedaa
