/- Contracts of functions that the laws reach, by the symbolic executor of the texts Sxa to Sxt. No condition. -/
import Derived.Test.YtbjelfgclhmedaaU5
set_option linter.all false
set_option maxRecDepth 40000
namespace Go.Proofs.Ytbjelfgclhmedaa
open Go Go.Sx

def pl22 : Nat → Plan
  | 5 => (.q 0 (.q 1 (.q 2 (.q 3 (.q 4 (.q 5 (.q 6 (.e1 7 [] (.e1 8 [] (.q 9 .nil))))))))))
  | _ => .nil


def hexD (x : BitVec 8) : BitVec 8 := if x < 10 then x + 48 else x + 87
def hexF (D : Nat → BitVec 8) (i : Nat) : BitVec 8 := if i % 2 = 0 then hexD (D (i / 2) >>> 4) else hexD (D (i / 2) &&& 15)
def strOf (n : Nat) (f : Nat → BitVec 8) : ByteArray := ⟨((List.range n).map fun i => UInt8.ofNat (nat (f i)).toNat).toArray⟩
theorem andlit8 (b : BitVec 8) : bits .and .u8 (nat b) 15 = nat (b &&& 15#8) := and8 b 15#8
theorem digHi : ∀ x : BitVec 8, byteAt ⟨#[48, 49, 50, 51, 52, 53, 54, 55, 56, 57, 97, 98, 99, 100, 101, 102]⟩ (nat (x >>> 4)).toNat = nat (hexD (x >>> 4)) := by decide
theorem digLo : ∀ x : BitVec 8, byteAt ⟨#[48, 49, 50, 51, 52, 53, 54, 55, 56, 57, 97, 98, 99, 100, 101, 102]⟩ (nat (x &&& 15#8)).toNat = nat (hexD (x &&& 15#8)) := by decide
theorem res22 : Try.f22.results.toList = [.tmp 2] := rfl
theorem c22l (D : Nat → BitVec 8) (K : Tok → SV → List Chunk → Prop) (hK : K .mk (.str (strOf 64 (hexF D))) []) : callP Try.prog 22 [.fam 32 1 fun i => .int .u8 (nat (D i))] [] K := by
  refine callP_of_code tabOk Try.func22 (by kernel_rfl) rfl (Nat.le_of_ble_eq_true rfl) (codeP_of_vc (pl := pl22) tabOk follows_mixed (by kernel_rfl) ?_)
  rw [Try.ntmps22]
  simp -implicitDefEqProofs (maxSteps := 1000000) (disch := omega) only [↓vcB, ↓gd, ↓opP, ↓qv, ↓ef, ↓bslS, ↓stS, ↓mkS, ↓mupS, ↓appS, ↓s2bS, ↓resS, evB, Sx.look, slot, ↓lkL, putS, putO, argsL, ↓reduceIte, ofV, of1, lookH, putH, List.length_cons, List.length_nil, List.length_append, List.replicate, List.append, List.cons_append, List.nil_append, List.append_assoc, List.map_cons, List.map_nil, convS, fldA, nthT, idxA, idxS, fldS, oslN, bnd, slS, unS, valI, lenS, lookS, takeC, parts, asRow, single, rdF, Ent.row, ldS, sz, szL, wrF, bldF, plT, bldS, srcS, nilS, nilEq, binS2, structS, eqL, eqF, binS, arrS, isI, tupS, stor, storL, Value.oneCell', minS, maxS, capS, true_and, and_true, Nat.reduceAdd, Nat.reduceSub, Nat.reduceMul, Nat.reduceLT, Nat.reduceLeDiff, Nat.reduceEqDiff, Nat.reduceBEq, Int.reduceToNat, Int.reduceNeg, Nat.zero_add, Nat.add_zero, Nat.sub_self, Nat.sub_zero, Nat.zero_mul, Nat.mul_one, Nat.zero_le, if_true, if_false, reduceIte, stays, inL, same1, qn, ldN, convN, lenN, List.mem_cons, List.not_mem_nil, Option.map_some, Option.map_none, cond_true, cond_false, Sx.imp_true, Sx.imp_false, implies_true, Int.reduceEq, Int.reduceNe, Int.reduceLE, Int.reduceLT, decide_true, decide_false, List.zipIdx_cons, List.zipIdx_nil, or_false, false_or, forall_eq_or_imp, forall_eq, ne_eq, reduceCtorEq, not_false_eq_true, Bool.false_eq_true, Bool.true_eq_false, Bool.not_true, Bool.not_false, notInt, numB, tabB, Array.reduceGetElem?, res22]
  refine codeP_loop (pl := pl22) tabOk follows_mixed (by kernel_rfl) (fun m s => ∃ (k : Nat) (j : Nat → Value), k + m = 32 ∧ s = ⟨⟨22, [(3, .osl 0 0 0 1 (2 * k)), (6, .fam 32 1 fun i => .int .u8 (nat (D i))), (7, .int .i64 (k : Nat))], j⟩, [.row true (2 * k) 1 fun i => .int .u8 (nat (hexF D i))], []⟩) ?_ ?_
  · refine into_mk [none] [(3, .osl 0 0 0 1 (2 * 0)), (6, .fam 32 1 fun i => .int .u8 (nat (D i))), (7, .int .i64 (0 : Nat))] [.row true (2 * 0) 1 fun i => .int .u8 (nat (hexF D i))] ?_ ?_ ?_ ?_ ?_ ?_ ?_ ?_
    · simp [slot, lkL, fixed, rg, renH, chEq, lookH, eqvL, eqv, eqvF, rnmL, rnm, liveN, Chunk.live, goodH, Chunk.good, okL, ok, sz, szL, storL, stor, renT, okT]
    · simp [slot, lkL, fixed, rg, renH, chEq, lookH, eqvL, eqv, eqvF, rnmL, rnm, liveN, Chunk.live, goodH, Chunk.good, okL, ok, sz, szL, storL, stor, renT, okT]
    · simp [slot, lkL, fixed, rg, renH, chEq, lookH, eqvL, eqv, eqvF, rnmL, rnm, liveN, Chunk.live, goodH, Chunk.good, okL, ok, sz, szL, storL, stor, renT, okT]
    · simp [slot, lkL, fixed, rg, renH, chEq, lookH, eqvL, eqv, eqvF, rnmL, rnm, liveN, Chunk.live, goodH, Chunk.good, okL, ok, sz, szL, storL, stor, renT, okT]
    · simp [slot, lkL, fixed, rg, renH, chEq, lookH, eqvL, eqv, eqvF, rnmL, rnm, liveN, Chunk.live, goodH, Chunk.good, okL, ok, sz, szL, storL, stor, renT, okT]
    · simp [slot, lkL, fixed, rg, renH, chEq, lookH, eqvL, eqv, eqvF, rnmL, rnm, liveN, Chunk.live, goodH, Chunk.good, okL, ok, sz, szL, storL, stor, renT, okT]
    · simp [slot, lkL, fixed, rg, renH, chEq, lookH, eqvL, eqv, eqvF, rnmL, rnm, liveN, Chunk.live, goodH, Chunk.good, okL, ok, sz, szL, storL, stor, renT, okT]
    · intro j
      exact ⟨32, 0, j, by omega, rfl⟩
  · rintro m s ⟨k, j, hk, rfl⟩
    have a0 : IntKind.i64.wrap ((k : Int) + 1) = ((k + 1 : Nat) : Int) := by rw [wrap64 (by omega) (by omega)]; omega
    simp -implicitDefEqProofs (maxSteps := 1000000) (disch := omega) only [↓vcB, ↓gd, ↓opP, ↓qv, ↓ef, ↓bslS, ↓stS, ↓mkS, ↓mupS, ↓appS, ↓s2bS, ↓resS, evB, Sx.look, slot, ↓lkL, putS, putO, argsL, ↓reduceIte, ofV, of1, lookH, putH, List.length_cons, List.length_nil, List.length_append, List.replicate, List.append, List.cons_append, List.nil_append, List.append_assoc, List.map_cons, List.map_nil, convS, fldA, nthT, idxA, idxS, fldS, oslN, bnd, slS, unS, valI, lenS, lookS, takeC, parts, asRow, single, rdF, Ent.row, ldS, sz, szL, wrF, bldF, plT, bldS, srcS, nilS, nilEq, binS2, structS, eqL, eqF, binS, arrS, isI, tupS, stor, storL, Value.oneCell', minS, maxS, capS, true_and, and_true, Nat.reduceAdd, Nat.reduceSub, Nat.reduceMul, Nat.reduceLT, Nat.reduceLeDiff, Nat.reduceEqDiff, Nat.reduceBEq, Int.reduceToNat, Int.reduceNeg, Nat.zero_add, Nat.add_zero, Nat.sub_self, Nat.sub_zero, Nat.zero_mul, Nat.mul_one, Nat.zero_le, if_true, if_false, reduceIte, stays, inL, same1, qn, ldN, convN, lenN, List.mem_cons, List.not_mem_nil, Option.map_some, Option.map_none, cond_true, cond_false, Sx.imp_true, Sx.imp_false, implies_true, Int.reduceEq, Int.reduceNe, Int.reduceLE, Int.reduceLT, decide_true, decide_false, List.zipIdx_cons, List.zipIdx_nil, or_false, false_or, forall_eq_or_imp, forall_eq, ne_eq, reduceCtorEq, not_false_eq_true, Bool.false_eq_true, Bool.true_eq_false, Bool.not_true, Bool.not_false, notInt, numB, tabB, ↓Array.reduceGetElem?, pl22, a0, andlit8, digHi, digLo, Int.toNat_natCast, res22]
    refine ⟨Sx.imp_intro fun hc' => ?_, Sx.imp_intro fun hc' => ?_⟩
    · have hk3 : k < 32 := by have := of_decide_eq_true hc'; omega
      have n1 := nat_nonneg (D k >>> 4)
      have n2 := nat_nonneg (D k &&& 15#8)
      have n3 : nat (D k >>> 4) < 16 := (by decide : ∀ x : BitVec 8, nat (x >>> 4) < 16) (D k)
      have n4 : nat (D k &&& 15#8) < 16 := (by decide : ∀ x : BitVec 8, nat (x &&& 15#8) < 16) (D k)
      have n5 : (ByteArray.mk #[48, 49, 50, 51, 52, 53, 54, 55, 56, 57, 97, 98, 99, 100, 101, 102]).size = 16 := rfl
      rw [n5]
      and_intros <;> try omega
      refine into_mk [some 2] [(3, .osl 0 0 0 1 (2 * (k + 1))), (6, .fam 32 1 fun i => .int .u8 (nat (D i))), (7, .int .i64 (k + 1 : Nat))] [.row true (2 * (k + 1)) 1 fun i => .int .u8 (nat (hexF D i))] ?_ ?_ ?_ ?_ ?_ ?_ ?_ ?_
      · simp [slot, lkL, fixed, rg, renH, chEq, lookH, eqvL, eqv, eqvF, rnmL, rnm, liveN, Chunk.live, goodH, Chunk.good, okL, ok, sz, szL, storL, stor, renT, okT]
      · simp [slot, lkL, fixed, rg, renH, chEq, lookH, eqvL, eqv, eqvF, rnmL, rnm, liveN, Chunk.live, goodH, Chunk.good, okL, ok, sz, szL, storL, stor, renT, okT]
      · simp [slot, lkL, fixed, rg, renH, chEq, lookH, eqvL, eqv, eqvF, rnmL, rnm, liveN, Chunk.live, goodH, Chunk.good, okL, ok, sz, szL, storL, stor, renT, okT]
        refine ⟨by omega, fun i hi => ?_⟩
        by_cases h : i < 2 * k
        · simp [h, eqv]
        by_cases h2 : i = 2 * k
        · subst h2
          simp [hexF, eqv, Sx.look, show (2 * k) % 2 = 0 by omega, show (2 * k) / 2 = k by omega]
        · have h3 : i = 2 * k + 1 := by omega
          subst h3
          simp [hexF, eqv, Sx.look, show (2 * k + 1) % 2 = 1 by omega, show (2 * k + 1) / 2 = k by omega]
      · simp [slot, lkL, fixed, rg, renH, chEq, lookH, eqvL, eqv, eqvF, rnmL, rnm, liveN, Chunk.live, goodH, Chunk.good, okL, ok, sz, szL, storL, stor, renT, okT]
      · simp [slot, lkL, fixed, rg, renH, chEq, lookH, eqvL, eqv, eqvF, rnmL, rnm, liveN, Chunk.live, goodH, Chunk.good, okL, ok, sz, szL, storL, stor, renT, okT]
      · simp [slot, lkL, fixed, rg, renH, chEq, lookH, eqvL, eqv, eqvF, rnmL, rnm, liveN, Chunk.live, goodH, Chunk.good, okL, ok, sz, szL, storL, stor, renT, okT]
        try omega
      · simp [slot, lkL, fixed, rg, renH, chEq, lookH, eqvL, eqv, eqvF, rnmL, rnm, liveN, Chunk.live, goodH, Chunk.good, okL, ok, sz, szL, storL, stor, renT, okT]
      · intro j
        exact ⟨m - 1, by omega, k + 1, j, by omega, rfl⟩
    · have hk4 : k = 32 := by have := of_decide_eq_false hc'; omega
      subst hk4
      refine ⟨by omega, intoR_take [] rfl rfl trivial trivial hK⟩

theorem c22 (D : Nat → BitVec 8) {h : List Chunk} (K : Tok → SV → List Chunk → Prop) (hK : K .mk (.str (strOf 64 (hexF D))) h) : callP Try.prog 22 [.fam 32 1 fun i => .int .u8 (nat (D i))] h K := by
  refine callP_frame (argsL := [.fam 32 1 fun i => .int .u8 (nat (D i))]) (KL := fun _ v h' => v = .str (strOf 64 (hexF D)) ∧ h' = []) [] (c22l D _ ⟨rfl, rfl⟩) List.nodup_nil trivial trivial (by simp [slot, lkL, fixed, rg, renH, chEq, lookH, eqvL, eqv, eqvF, rnmL, rnm, liveN, Chunk.live, goodH, Chunk.good, okL, ok, sz, szL, storL, stor, renT, okT, has, upG, up, nth, roOk, keepsLive, Chunk.wr, lay, rnmC, putH]) rfl ?_
  rintro v h' ⟨rfl, rfl⟩
  refine ⟨by simp [slot, lkL, fixed, rg, renH, chEq, lookH, eqvL, eqv, eqvF, rnmL, rnm, liveN, Chunk.live, goodH, Chunk.good, okL, ok, sz, szL, storL, stor, renT, okT, has, upG, up, nth, roOk, keepsLive, Chunk.wr, lay, rnmC, putH], trivial, ?_⟩
  simpa [rnm, lay] using hK
end Go.Proofs.Ytbjelfgclhmedaa
