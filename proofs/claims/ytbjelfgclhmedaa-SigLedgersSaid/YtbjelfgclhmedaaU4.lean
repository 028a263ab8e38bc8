/- Contracts of functions that the laws reach, by the symbolic executor of the texts Sxa to Sxt. No condition. -/
import Derived.Test.YtbjelfgclhmedaaU3
set_option linter.all false
set_option maxRecDepth 40000
namespace Go.Proofs.Ytbjelfgclhmedaa
open Go Go.Sx

def zs (n : Nat) : Nat := (119 - n) % 64
def pad0 (n z : Nat) (L : Nat → BitVec 8) (i : Nat) : BitVec 8 := if i < n then L i else if i = n then 128#8 else 0
def padF (n : Nat) (cnt : BitVec 64) (L : Nat → BitVec 8) (i : Nat) : BitVec 8 :=
  if i < n + 1 + zs n then pad0 n (zs n) L i else ((cnt <<< 3) >>> (8 * (7 - (i - (n + 1 + zs n))))).setWidth 8
def dig (W : Nat → BitVec 32) (i : Nat) : BitVec 8 := (W (i / 4) >>> (24 - 8 * (i % 4))).setWidth 8
theorem rem_nat (a b : Nat) : ((a : Int)).tmod (b : Int) = ((a % b : Nat) : Int) := by
  rw [Int.tmod_eq_emod_of_nonneg (by omega)]; exact (Int.natCast_emod a b).symm

theorem res19 : Try.f19.results.toList = [.cell 2 29] := rfl
set_option maxHeartbeats 4000000 in
theorem c19l (w : Nat → BitVec 32) (cnt n : Nat) (L : Nat → BitVec 8) (hn : n < 64) (hc : cnt < 9223372036854775808) (K : Tok → SV → List Chunk → Prop)
    (hK : K .mk (.fam 32 1 fun i => .int .u8 (nat (dig (blk w (padF n (BitVec.ofNat 64 cnt) L) ((n + 1 + zs n + 8) / 64)) i))) [.cells true [.int .u32 (nat (w 0)), .int .u32 (nat (w 1)), .int .u32 (nat (w 2)), .int .u32 (nat (w 3)), .int .u32 (nat (w 4)), .int .u32 (nat (w 5)), .int .u32 (nat (w 6)), .int .u32 (nat (w 7)), .osl 1 0 0 1 n, .int .i64 (cnt : Nat)], .row true n 1 (fun i => .int .u8 (nat (L i)))]) :
    callP Try.prog 19 [.ptr 0 0] [.cells true [.int .u32 (nat (w 0)), .int .u32 (nat (w 1)), .int .u32 (nat (w 2)), .int .u32 (nat (w 3)), .int .u32 (nat (w 4)), .int .u32 (nat (w 5)), .int .u32 (nat (w 6)), .int .u32 (nat (w 7)), .osl 1 0 0 1 n, .int .i64 (cnt : Nat)], .row true n 1 (fun i => .int .u8 (nat (L i)))] K := by
  refine callP_of_code tabOk Try.func19 (by kernel_rfl) rfl (Nat.le_of_ble_eq_true rfl) (codeP_of_vc (pl := np) tabOk follows_mixed (by kernel_rfl) ?_)
  rw [Try.ntmps19]
  simp -implicitDefEqProofs (maxSteps := 1000000) (disch := omega) only [↓vcB, ↓gd, ↓opP, ↓qv, ↓ef, ↓bslS, ↓stS, ↓mkS, ↓mupS, ↓appS, ↓s2bS, ↓resS, evB, Sx.look, slot, ↓lkL, putS, putO, argsL, ↓reduceIte, ofV, of1, lookH, putH, List.length_cons, List.length_nil, List.length_append, List.replicate, List.append, List.cons_append, List.nil_append, List.append_assoc, List.map_cons, List.map_nil, convS, fldA, nthT, idxA, idxS, fldS, oslN, bnd, slS, unS, valI, lenS, lookS, takeC, parts, asRow, single, rdF, Ent.row, ldS, sz, szL, wrF, bldF, plT, bldS, srcS, nilS, nilEq, binS2, structS, eqL, eqF, binS, arrS, isI, tupS, stor, storL, Value.oneCell', minS, maxS, capS, true_and, and_true, Nat.reduceAdd, Nat.reduceSub, Nat.reduceMul, Nat.reduceLT, Nat.reduceLeDiff, Nat.reduceEqDiff, Nat.reduceBEq, Int.reduceToNat, Int.reduceNeg, Nat.zero_add, Nat.add_zero, Nat.sub_self, Nat.sub_zero, Nat.zero_mul, Nat.mul_one, Nat.zero_le, if_true, if_false, reduceIte, stays, inL, same1, qn, ldN, convN, lenN, List.mem_cons, List.not_mem_nil, Option.map_some, Option.map_none, cond_true, cond_false, Sx.imp_true, Sx.imp_false, implies_true, Int.reduceEq, Int.reduceNe, Int.reduceLE, Int.reduceLT, decide_true, decide_false, List.zipIdx_cons, List.zipIdx_nil, or_false, false_or, forall_eq_or_imp, forall_eq, ne_eq, reduceCtorEq, not_false_eq_true, Bool.false_eq_true, Bool.true_eq_false, Bool.not_true, Bool.not_false, notInt, numB, tabB, Array.reduceGetElem?, Option.isNone]
  and_intros <;> try omega
  refine codeP_loop (pl := np) tabOk follows_mixed (by kernel_rfl) (fun m s => ∃ (z : Nat) (j : Nat → Value), z + m = zs n ∧ s = ⟨⟨88, [(0, .ptr 0 0), (2, .ptr 2 0), (3, .ptr 3 0), (4, .osl 4 0 0 1 (n + 1 + z))], j⟩, [.cells true [.int .u32 (nat (w 0)), .int .u32 (nat (w 1)), .int .u32 (nat (w 2)), .int .u32 (nat (w 3)), .int .u32 (nat (w 4)), .int .u32 (nat (w 5)), .int .u32 (nat (w 6)), .int .u32 (nat (w 7)), .osl 1 0 0 1 n, .int .i64 (cnt : Nat)], .row true n 1 (fun i => .int .u8 (nat (L i))), .cells true [.fam 32 1 fun _ => .int .u8 0], .cells true [.fam 32 1 fun _ => .int .u8 0], .row true (n + 1 + z) 1 fun i => .int .u8 (nat (pad0 n z L i))], []⟩) ?_ ?_
  · refine into_mk [some 0, some 1, some 2, some 3, some 6] [(0, .ptr 0 0), (2, .ptr 2 0), (3, .ptr 3 0), (4, .osl 4 0 0 1 (n + 1 + 0))] [.cells true [.int .u32 (nat (w 0)), .int .u32 (nat (w 1)), .int .u32 (nat (w 2)), .int .u32 (nat (w 3)), .int .u32 (nat (w 4)), .int .u32 (nat (w 5)), .int .u32 (nat (w 6)), .int .u32 (nat (w 7)), .osl 1 0 0 1 n, .int .i64 (cnt : Nat)], .row true n 1 (fun i => .int .u8 (nat (L i))), .cells true [.fam 32 1 fun _ => .int .u8 0], .cells true [.fam 32 1 fun _ => .int .u8 0], .row true (n + 1 + 0) 1 fun i => .int .u8 (nat (pad0 n 0 L i))] ?_ ?_ ?_ ?_ ?_ ?_ ?_ ?_
    · simp [slot, lkL, fixed, rg, renH, chEq, lookH, eqvL, eqv, eqvF, rnmL, rnm, liveN, Chunk.live, goodH, Chunk.good, okL, ok, sz, szL, storL, stor, renT, okT]
    · simp [slot, lkL, fixed, rg, renH, chEq, lookH, eqvL, eqv, eqvF, rnmL, rnm, liveN, Chunk.live, goodH, Chunk.good, okL, ok, sz, szL, storL, stor, renT, okT]
    · simp [slot, lkL, fixed, rg, renH, chEq, lookH, eqvL, eqv, eqvF, rnmL, rnm, liveN, Chunk.live, goodH, Chunk.good, okL, ok, sz, szL, storL, stor, renT, okT]
      intro i hi
      by_cases h : i < n
      · simp [h, pad0, eqv]
      · have h2 : i = n := by omega
        subst h2
        simp [pad0, eqv, Sx.look, nat]
    · simp [slot, lkL, fixed, rg, renH, chEq, lookH, eqvL, eqv, eqvF, rnmL, rnm, liveN, Chunk.live, goodH, Chunk.good, okL, ok, sz, szL, storL, stor, renT, okT]
    · simp [slot, lkL, fixed, rg, renH, chEq, lookH, eqvL, eqv, eqvF, rnmL, rnm, liveN, Chunk.live, goodH, Chunk.good, okL, ok, sz, szL, storL, stor, renT, okT]
    · simp [slot, lkL, fixed, rg, renH, chEq, lookH, eqvL, eqv, eqvF, rnmL, rnm, liveN, Chunk.live, goodH, Chunk.good, okL, ok, sz, szL, storL, stor, renT, okT]
    · simp [slot, lkL, fixed, rg, renH, chEq, lookH, eqvL, eqv, eqvF, rnmL, rnm, liveN, Chunk.live, goodH, Chunk.good, okL, ok, sz, szL, storL, stor, renT, okT]
    · intro j
      exact ⟨zs n, 0, j, by omega, rfl⟩
  · rintro m s ⟨z, j, hz, rfl⟩
    have e0 : ((n + 1 + z : Nat) : Int).tmod 64 = (((n + 1 + z) % 64 : Nat) : Int) := rem_nat (n + 1 + z) 64
    simp -implicitDefEqProofs (maxSteps := 1000000) (disch := omega) only [↓vcB, ↓gd, ↓opP, ↓qv, ↓ef, ↓bslS, ↓stS, ↓mkS, ↓mupS, ↓appS, ↓s2bS, ↓resS, evB, Sx.look, slot, ↓lkL, putS, putO, argsL, ↓reduceIte, ofV, of1, lookH, putH, List.length_cons, List.length_nil, List.length_append, List.replicate, List.append, List.cons_append, List.nil_append, List.append_assoc, List.map_cons, List.map_nil, convS, fldA, nthT, idxA, idxS, fldS, oslN, bnd, slS, unS, valI, lenS, lookS, takeC, parts, asRow, single, rdF, Ent.row, ldS, sz, szL, wrF, bldF, plT, bldS, srcS, nilS, nilEq, binS2, structS, eqL, eqF, binS, arrS, isI, tupS, stor, storL, Value.oneCell', minS, maxS, capS, true_and, and_true, Nat.reduceAdd, Nat.reduceSub, Nat.reduceMul, Nat.reduceLT, Nat.reduceLeDiff, Nat.reduceEqDiff, Nat.reduceBEq, Int.reduceToNat, Int.reduceNeg, Nat.zero_add, Nat.add_zero, Nat.sub_self, Nat.sub_zero, Nat.zero_mul, Nat.mul_one, Nat.zero_le, if_true, if_false, reduceIte, stays, inL, same1, qn, ldN, convN, lenN, List.mem_cons, List.not_mem_nil, Option.map_some, Option.map_none, cond_true, cond_false, Sx.imp_true, Sx.imp_false, implies_true, Int.reduceEq, Int.reduceNe, Int.reduceLE, Int.reduceLT, decide_true, decide_false, List.zipIdx_cons, List.zipIdx_nil, or_false, false_or, forall_eq_or_imp, forall_eq, ne_eq, reduceCtorEq, not_false_eq_true, Bool.false_eq_true, Bool.true_eq_false, Bool.not_true, Bool.not_false, notInt, numB, tabB, Array.reduceGetElem?, e0]
    refine ⟨Sx.imp_intro fun hc' => ?_, Sx.imp_intro fun hc' => ?_⟩
    · have hz2 : z < zs n := by
        simp only [bne_iff_ne, ne_eq] at hc'
        simp only [zs] at hz ⊢
        omega
      have hz3 : zs n < 64 := Nat.mod_lt _ (by decide)
      and_intros <;> try omega
      refine into_mk [some 0, some 1, some 2, some 3, some 6] [(0, .ptr 0 0), (2, .ptr 2 0), (3, .ptr 3 0), (4, .osl 4 0 0 1 (n + 1 + (z + 1)))] [.cells true [.int .u32 (nat (w 0)), .int .u32 (nat (w 1)), .int .u32 (nat (w 2)), .int .u32 (nat (w 3)), .int .u32 (nat (w 4)), .int .u32 (nat (w 5)), .int .u32 (nat (w 6)), .int .u32 (nat (w 7)), .osl 1 0 0 1 n, .int .i64 (cnt : Nat)], .row true n 1 (fun i => .int .u8 (nat (L i))), .cells true [.fam 32 1 fun _ => .int .u8 0], .cells true [.fam 32 1 fun _ => .int .u8 0], .row true (n + 1 + (z + 1)) 1 fun i => .int .u8 (nat (pad0 n (z + 1) L i))] ?_ ?_ ?_ ?_ ?_ ?_ ?_ ?_
      · simp [slot, lkL, fixed, rg, renH, chEq, lookH, eqvL, eqv, eqvF, rnmL, rnm, liveN, Chunk.live, goodH, Chunk.good, okL, ok, sz, szL, storL, stor, renT, okT]
      · simp [slot, lkL, fixed, rg, renH, chEq, lookH, eqvL, eqv, eqvF, rnmL, rnm, liveN, Chunk.live, goodH, Chunk.good, okL, ok, sz, szL, storL, stor, renT, okT]
      · simp [slot, lkL, fixed, rg, renH, chEq, lookH, eqvL, eqv, eqvF, rnmL, rnm, liveN, Chunk.live, goodH, Chunk.good, okL, ok, sz, szL, storL, stor, renT, okT]
        refine ⟨by omega, fun i hi => ?_⟩
        by_cases h : i < n + 1 + z
        · simp [h, pad0, eqv]
        · have h2 : i = n + 1 + z := by omega
          subst h2
          simp [pad0, eqv, Sx.look, nat, show ¬ n + 1 + z < n by omega, show ¬ n + 1 + z = n by omega]
      · simp [slot, lkL, fixed, rg, renH, chEq, lookH, eqvL, eqv, eqvF, rnmL, rnm, liveN, Chunk.live, goodH, Chunk.good, okL, ok, sz, szL, storL, stor, renT, okT]
      · simp [slot, lkL, fixed, rg, renH, chEq, lookH, eqvL, eqv, eqvF, rnmL, rnm, liveN, Chunk.live, goodH, Chunk.good, okL, ok, sz, szL, storL, stor, renT, okT]
      · simp [slot, lkL, fixed, rg, renH, chEq, lookH, eqvL, eqv, eqvF, rnmL, rnm, liveN, Chunk.live, goodH, Chunk.good, okL, ok, sz, szL, storL, stor, renT, okT]
        omega
      · simp [slot, lkL, fixed, rg, renH, chEq, lookH, eqvL, eqv, eqvF, rnmL, rnm, liveN, Chunk.live, goodH, Chunk.good, okL, ok, sz, szL, storL, stor, renT, okT]
      · intro j
        exact ⟨m - 1, by omega, z + 1, j, by omega, rfl⟩
    · have hz2 : z = zs n := by
        simp only [bne_eq_false_iff_eq] at hc'
        simp only [zs] at hz ⊢
        omega
      subst hz2
      have hz3 : zs n < 64 := Nat.mod_lt _ (by decide)
      have f0 : IntKind.u64.wrap (cnt : Int) = nat (BitVec.ofNat 64 cnt) := by
        rw [Go.Sx.wrap_small (k := .u64) rfl (by omega) (by rw [show IntKind.u64.bits = 64 from rfl]; omega)]
        simp only [nat, BitVec.toNat_ofNat]
        omega
      refine codeP_loop (pl := np) tabOk follows_mixed (by kernel_rfl) (fun m s => ∃ (k : Nat) (j : Nat → Value), k + m = 8 ∧ s = ⟨⟨88, [(0, .ptr 0 0), (2, .ptr 2 0), (3, .ptr 3 0), (4, .osl 4 0 0 1 (n + 1 + zs n + k)), (5, .int .i64 (7 - (k : Nat)))], j⟩, [.cells true [.int .u32 (nat (w 0)), .int .u32 (nat (w 1)), .int .u32 (nat (w 2)), .int .u32 (nat (w 3)), .int .u32 (nat (w 4)), .int .u32 (nat (w 5)), .int .u32 (nat (w 6)), .int .u32 (nat (w 7)), .osl 1 0 0 1 n, .int .i64 (cnt : Nat)], .row true n 1 (fun i => .int .u8 (nat (L i))), .cells true [.fam 32 1 fun _ => .int .u8 0], .cells true [.fam 32 1 fun _ => .int .u8 0], .row true (n + 1 + zs n + k) 1 fun i => .int .u8 (nat (padF n (BitVec.ofNat 64 cnt) L i))], []⟩) ?_ ?_
      · refine into_mk [some 0, some 1, some 2, some 3, some 4] [(0, .ptr 0 0), (2, .ptr 2 0), (3, .ptr 3 0), (4, .osl 4 0 0 1 (n + 1 + zs n + 0)), (5, .int .i64 (7 - (0 : Nat)))] [.cells true [.int .u32 (nat (w 0)), .int .u32 (nat (w 1)), .int .u32 (nat (w 2)), .int .u32 (nat (w 3)), .int .u32 (nat (w 4)), .int .u32 (nat (w 5)), .int .u32 (nat (w 6)), .int .u32 (nat (w 7)), .osl 1 0 0 1 n, .int .i64 (cnt : Nat)], .row true n 1 (fun i => .int .u8 (nat (L i))), .cells true [.fam 32 1 fun _ => .int .u8 0], .cells true [.fam 32 1 fun _ => .int .u8 0], .row true (n + 1 + zs n + 0) 1 fun i => .int .u8 (nat (padF n (BitVec.ofNat 64 cnt) L i))] ?_ ?_ ?_ ?_ ?_ ?_ ?_ ?_
        · simp [slot, lkL, fixed, rg, renH, chEq, lookH, eqvL, eqv, eqvF, rnmL, rnm, liveN, Chunk.live, goodH, Chunk.good, okL, ok, sz, szL, storL, stor, renT, okT]
        · simp [slot, lkL, fixed, rg, renH, chEq, lookH, eqvL, eqv, eqvF, rnmL, rnm, liveN, Chunk.live, goodH, Chunk.good, okL, ok, sz, szL, storL, stor, renT, okT]
        · simp [slot, lkL, fixed, rg, renH, chEq, lookH, eqvL, eqv, eqvF, rnmL, rnm, liveN, Chunk.live, goodH, Chunk.good, okL, ok, sz, szL, storL, stor, renT, okT]
          intro i hi
          simp [padF, hi, eqv]
        · simp [slot, lkL, fixed, rg, renH, chEq, lookH, eqvL, eqv, eqvF, rnmL, rnm, liveN, Chunk.live, goodH, Chunk.good, okL, ok, sz, szL, storL, stor, renT, okT]
        · simp [slot, lkL, fixed, rg, renH, chEq, lookH, eqvL, eqv, eqvF, rnmL, rnm, liveN, Chunk.live, goodH, Chunk.good, okL, ok, sz, szL, storL, stor, renT, okT]
        · simp [slot, lkL, fixed, rg, renH, chEq, lookH, eqvL, eqv, eqvF, rnmL, rnm, liveN, Chunk.live, goodH, Chunk.good, okL, ok, sz, szL, storL, stor, renT, okT]
        · simp [slot, lkL, fixed, rg, renH, chEq, lookH, eqvL, eqv, eqvF, rnmL, rnm, liveN, Chunk.live, goodH, Chunk.good, okL, ok, sz, szL, storL, stor, renT, okT]
        · intro j
          exact ⟨8, 0, j, by omega, rfl⟩
      · rintro m2 s ⟨k, j2, hk, rfl⟩
        by_cases hk8 : k = 8
        · subst hk8
          have f3 : (decide ((7 - ((8 : Nat) : Int)) ≥ 0)) = false := by decide
          simp -implicitDefEqProofs (maxSteps := 1000000) (disch := omega) only [↓vcB, ↓gd, ↓opP, ↓qv, ↓ef, ↓bslS, ↓stS, ↓mkS, ↓mupS, ↓appS, ↓s2bS, ↓resS, evB, Sx.look, slot, ↓lkL, putS, putO, argsL, ↓reduceIte, ofV, of1, lookH, putH, List.length_cons, List.length_nil, List.length_append, List.replicate, List.append, List.cons_append, List.nil_append, List.append_assoc, List.map_cons, List.map_nil, convS, fldA, nthT, idxA, idxS, fldS, oslN, bnd, slS, unS, valI, lenS, lookS, takeC, parts, asRow, single, rdF, Ent.row, ldS, sz, szL, wrF, bldF, plT, bldS, srcS, nilS, nilEq, binS2, structS, eqL, eqF, binS, arrS, isI, tupS, stor, storL, Value.oneCell', minS, maxS, capS, true_and, and_true, Nat.reduceAdd, Nat.reduceSub, Nat.reduceMul, Nat.reduceLT, Nat.reduceLeDiff, Nat.reduceEqDiff, Nat.reduceBEq, Int.reduceToNat, Int.reduceNeg, Nat.zero_add, Nat.add_zero, Nat.sub_self, Nat.sub_zero, Nat.zero_mul, Nat.mul_one, Nat.zero_le, if_true, if_false, reduceIte, stays, inL, same1, qn, ldN, convN, lenN, List.mem_cons, List.not_mem_nil, Option.map_some, Option.map_none, cond_true, cond_false, Sx.imp_true, Sx.imp_false, implies_true, Int.reduceEq, Int.reduceNe, Int.reduceLE, Int.reduceLT, decide_true, decide_false, List.zipIdx_cons, List.zipIdx_nil, or_false, false_or, forall_eq_or_imp, forall_eq, ne_eq, reduceCtorEq, not_false_eq_true, Bool.false_eq_true, Bool.true_eq_false, Bool.not_true, Bool.not_false, notInt, numB, tabB, Array.reduceGetElem?, f3]
          obtain ⟨N, hN⟩ : ∃ N, N = n + 1 + zs n + 8 := ⟨_, rfl⟩
          obtain ⟨T, hT⟩ : ∃ T, T = padF n (BitVec.ofNat 64 cnt) L := ⟨_, rfl⟩
          rw [← hN, ← hT] at hK ⊢
          have hN64 : N % 64 = 0 := by simp only [zs] at hN; omega
          refine codeP_loop (pl := np) tabOk follows_mixed (by kernel_rfl) (fun m s => ∃ (k d' : Nat) (j : Nat → Value), k + m = N / 64 ∧ s = ⟨⟨88, [(0, .ptr 0 0), (2, .ptr 2 0), (3, .ptr 3 0), (4, .osl 4 d' (64 * k) 1 (N - 64 * k)), (6, .ptr 5 0)], j⟩, [.cells true [.int .u32 (nat (w 0)), .int .u32 (nat (w 1)), .int .u32 (nat (w 2)), .int .u32 (nat (w 3)), .int .u32 (nat (w 4)), .int .u32 (nat (w 5)), .int .u32 (nat (w 6)), .int .u32 (nat (w 7)), .osl 1 0 0 1 n, .int .i64 (cnt : Nat)], .row true n 1 (fun i => .int .u8 (nat (L i))), .cells true [.fam 32 1 fun _ => .int .u8 0], .cells true [.fam 32 1 fun _ => .int .u8 0], .row true N 1 (fun i => .int .u8 (nat (T i))), .cells true [.int .u32 (nat (blk w T k 0)), .int .u32 (nat (blk w T k 1)), .int .u32 (nat (blk w T k 2)), .int .u32 (nat (blk w T k 3)), .int .u32 (nat (blk w T k 4)), .int .u32 (nat (blk w T k 5)), .int .u32 (nat (blk w T k 6)), .int .u32 (nat (blk w T k 7))]], []⟩) ?_ ?_
          · refine into_mk [some 0, some 1, some 2, some 3, some 4, some 5] [(0, .ptr 0 0), (2, .ptr 2 0), (3, .ptr 3 0), (4, .osl 4 0 (64 * 0) 1 (N - 64 * 0)), (6, .ptr 5 0)] [.cells true [.int .u32 (nat (w 0)), .int .u32 (nat (w 1)), .int .u32 (nat (w 2)), .int .u32 (nat (w 3)), .int .u32 (nat (w 4)), .int .u32 (nat (w 5)), .int .u32 (nat (w 6)), .int .u32 (nat (w 7)), .osl 1 0 0 1 n, .int .i64 (cnt : Nat)], .row true n 1 (fun i => .int .u8 (nat (L i))), .cells true [.fam 32 1 fun _ => .int .u8 0], .cells true [.fam 32 1 fun _ => .int .u8 0], .row true N 1 (fun i => .int .u8 (nat (T i))), .cells true [.int .u32 (nat (blk w T 0 0)), .int .u32 (nat (blk w T 0 1)), .int .u32 (nat (blk w T 0 2)), .int .u32 (nat (blk w T 0 3)), .int .u32 (nat (blk w T 0 4)), .int .u32 (nat (blk w T 0 5)), .int .u32 (nat (blk w T 0 6)), .int .u32 (nat (blk w T 0 7))]] ?_ ?_ ?_ ?_ ?_ ?_ ?_ ?_
            · simp [slot, lkL, fixed, rg, renH, chEq, lookH, eqvL, eqv, eqvF, rnmL, rnm, liveN, Chunk.live, goodH, Chunk.good, okL, ok, sz, szL, storL, stor, renT, okT]
            · simp [slot, lkL, fixed, rg, renH, chEq, lookH, eqvL, eqv, eqvF, rnmL, rnm, liveN, Chunk.live, goodH, Chunk.good, okL, ok, sz, szL, storL, stor, renT, okT]
            · simp [slot, lkL, fixed, rg, renH, chEq, lookH, eqvL, eqv, eqvF, rnmL, rnm, liveN, Chunk.live, goodH, Chunk.good, okL, ok, sz, szL, storL, stor, renT, okT, blk]
            · simp [slot, lkL, fixed, rg, renH, chEq, lookH, eqvL, eqv, eqvF, rnmL, rnm, liveN, Chunk.live, goodH, Chunk.good, okL, ok, sz, szL, storL, stor, renT, okT]
            · simp [slot, lkL, fixed, rg, renH, chEq, lookH, eqvL, eqv, eqvF, rnmL, rnm, liveN, Chunk.live, goodH, Chunk.good, okL, ok, sz, szL, storL, stor, renT, okT]
            · simp [slot, lkL, fixed, rg, renH, chEq, lookH, eqvL, eqv, eqvF, rnmL, rnm, liveN, Chunk.live, goodH, Chunk.good, okL, ok, sz, szL, storL, stor, renT, okT]
            · simp [slot, lkL, fixed, rg, renH, chEq, lookH, eqvL, eqv, eqvF, rnmL, rnm, liveN, Chunk.live, goodH, Chunk.good, okL, ok, sz, szL, storL, stor, renT, okT]
            · intro j
              exact ⟨N / 64, 0, 0, j, by omega, rfl⟩
          · rintro m3 s ⟨k, d', j3, hk, rfl⟩
            have hk2 : 64 * k ≤ N := by omega
            simp -implicitDefEqProofs (maxSteps := 1000000) (disch := omega) only [↓vcB, ↓gd, ↓opP, ↓qv, ↓ef, ↓bslS, ↓stS, ↓mkS, ↓mupS, ↓appS, ↓s2bS, ↓resS, evB, Sx.look, slot, ↓lkL, putS, putO, argsL, ↓reduceIte, ofV, of1, lookH, putH, List.length_cons, List.length_nil, List.length_append, List.replicate, List.append, List.cons_append, List.nil_append, List.append_assoc, List.map_cons, List.map_nil, convS, fldA, nthT, idxA, idxS, fldS, oslN, bnd, slS, unS, valI, lenS, lookS, takeC, parts, asRow, single, rdF, Ent.row, ldS, sz, szL, wrF, bldF, plT, bldS, srcS, nilS, nilEq, binS2, structS, eqL, eqF, binS, arrS, isI, tupS, stor, storL, Value.oneCell', minS, maxS, capS, true_and, and_true, Nat.reduceAdd, Nat.reduceSub, Nat.reduceMul, Nat.reduceLT, Nat.reduceLeDiff, Nat.reduceEqDiff, Nat.reduceBEq, Int.reduceToNat, Int.reduceNeg, Nat.zero_add, Nat.add_zero, Nat.sub_self, Nat.sub_zero, Nat.zero_mul, Nat.mul_one, Nat.zero_le, if_true, if_false, reduceIte, stays, inL, same1, qn, ldN, convN, lenN, List.mem_cons, List.not_mem_nil, Option.map_some, Option.map_none, cond_true, cond_false, Sx.imp_true, Sx.imp_false, implies_true, Int.reduceEq, Int.reduceNe, Int.reduceLE, Int.reduceLT, decide_true, decide_false, List.zipIdx_cons, List.zipIdx_nil, or_false, false_or, forall_eq_or_imp, forall_eq, ne_eq, reduceCtorEq, not_false_eq_true, Bool.false_eq_true, Bool.true_eq_false, Bool.not_true, Bool.not_false, notInt, numB, tabB, ↓Array.reduceGetElem?]
            refine ⟨Sx.imp_intro fun hc' => ?_, Sx.imp_intro fun hc' => ?_⟩
            · have hk3 : 64 * k + 64 ≤ N := by have := of_decide_eq_true hc'; omega
              and_intros <;> try omega
              refine callP_frame (hl := [.cells true ([.int .u32 (nat (blk w T k 0)), .int .u32 (nat (blk w T k 1)), .int .u32 (nat (blk w T k 2)), .int .u32 (nat (blk w T k 3)), .int .u32 (nat (blk w T k 4)), .int .u32 (nat (blk w T k 5)), .int .u32 (nat (blk w T k 6)), .int .u32 (nat (blk w T k 7))] ++ []), .row false N 1 fun i => .int .u8 (nat (T i))]) (argsL := [.ptr 0 0, .osl 1 d' (64 * k) 1 64])
                (KL := fun _ v h' => v = .tup [] ∧ h' = [.cells true ([.int .u32 (nat (comp (blk w T k) (fun i => T (64 * k + i)) 0)), .int .u32 (nat (comp (blk w T k) (fun i => T (64 * k + i)) 1)), .int .u32 (nat (comp (blk w T k) (fun i => T (64 * k + i)) 2)), .int .u32 (nat (comp (blk w T k) (fun i => T (64 * k + i)) 3)), .int .u32 (nat (comp (blk w T k) (fun i => T (64 * k + i)) 4)), .int .u32 (nat (comp (blk w T k) (fun i => T (64 * k + i)) 5)), .int .u32 (nat (comp (blk w T k) (fun i => T (64 * k + i)) 6)), .int .u32 (nat (comp (blk w T k) (fun i => T (64 * k + i)) 7))] ++ []), .row false N 1 fun i => .int .u8 (nat (T i))]) [5, 4]
                (c54l (blk w T k) [] d' (64 * k) N T (by omega) (by simp [okL, ok]) (by simp [storL, stor]) _ ⟨rfl, rfl⟩) ?_ ?_ ?_ ?_ ?_ ?_
              · simp
              · simp [slot, lkL, fixed, rg, renH, chEq, lookH, eqvL, eqv, eqvF, rnmL, rnm, liveN, Chunk.live, goodH, Chunk.good, okL, ok, sz, szL, storL, stor, renT, okT, has, upG, up, nth, roOk, keepsLive, Chunk.wr, lay, rnmC, putH]
              · simp [slot, lkL, fixed, rg, renH, chEq, lookH, eqvL, eqv, eqvF, rnmL, rnm, liveN, Chunk.live, goodH, Chunk.good, okL, ok, sz, szL, storL, stor, renT, okT, has, upG, up, nth, roOk, keepsLive, Chunk.wr, lay, rnmC, putH]
              · simp [slot, lkL, fixed, rg, renH, chEq, lookH, eqvL, eqv, eqvF, rnmL, rnm, liveN, Chunk.live, goodH, Chunk.good, okL, ok, sz, szL, storL, stor, renT, okT, has, upG, up, nth, roOk, keepsLive, Chunk.wr, lay, rnmC, putH]
              · simp [slot, lkL, fixed, rg, renH, chEq, lookH, eqvL, eqv, eqvF, rnmL, rnm, liveN, Chunk.live, goodH, Chunk.good, okL, ok, sz, szL, storL, stor, renT, okT, has, upG, up, nth, roOk, keepsLive, Chunk.wr, lay, rnmC, putH]
              · rintro v h' ⟨rfl, rfl⟩
                refine ⟨by simp [slot, lkL, fixed, rg, renH, chEq, lookH, eqvL, eqv, eqvF, rnmL, rnm, liveN, Chunk.live, goodH, Chunk.good, okL, ok, sz, szL, storL, stor, renT, okT, has, upG, up, nth, roOk, keepsLive, Chunk.wr, lay, rnmC, putH], by simp [slot, lkL, fixed, rg, renH, chEq, lookH, eqvL, eqv, eqvF, rnmL, rnm, liveN, Chunk.live, goodH, Chunk.good, okL, ok, sz, szL, storL, stor, renT, okT, has, upG, up, nth, roOk, keepsLive, Chunk.wr, lay, rnmC, putH], ?_⟩
                simp -implicitDefEqProofs (maxSteps := 1000000) (disch := omega) only [↓vcB, ↓gd, ↓opP, ↓qv, ↓ef, ↓bslS, ↓stS, ↓mkS, ↓mupS, ↓appS, ↓s2bS, ↓resS, evB, Sx.look, slot, ↓lkL, putS, putO, argsL, ↓reduceIte, ofV, of1, lookH, putH, List.length_cons, List.length_nil, List.length_append, List.replicate, List.append, List.cons_append, List.nil_append, List.append_assoc, List.map_cons, List.map_nil, convS, fldA, nthT, idxA, idxS, fldS, oslN, bnd, slS, unS, valI, lenS, lookS, takeC, parts, asRow, single, rdF, Ent.row, ldS, sz, szL, wrF, bldF, plT, bldS, srcS, nilS, nilEq, binS2, structS, eqL, eqF, binS, arrS, isI, tupS, stor, storL, Value.oneCell', minS, maxS, capS, true_and, and_true, Nat.reduceAdd, Nat.reduceSub, Nat.reduceMul, Nat.reduceLT, Nat.reduceLeDiff, Nat.reduceEqDiff, Nat.reduceBEq, Int.reduceToNat, Int.reduceNeg, Nat.zero_add, Nat.add_zero, Nat.sub_self, Nat.sub_zero, Nat.zero_mul, Nat.mul_one, Nat.zero_le, if_true, if_false, reduceIte, stays, inL, same1, qn, ldN, convN, lenN, List.mem_cons, List.not_mem_nil, Option.map_some, Option.map_none, cond_true, cond_false, Sx.imp_true, Sx.imp_false, implies_true, Int.reduceEq, Int.reduceNe, Int.reduceLE, Int.reduceLT, decide_true, decide_false, List.zipIdx_cons, List.zipIdx_nil, or_false, false_or, forall_eq_or_imp, forall_eq, ne_eq, reduceCtorEq, not_false_eq_true, Bool.false_eq_true, Bool.true_eq_false, Bool.not_true, Bool.not_false, notInt, numB, tabB, ↓Array.reduceGetElem?, upG, up, nth, lay, rnmC, rnm, rnmL, Chunk.wr]
                and_intros <;> try omega
                refine into_mk [some 0, some 1, some 2, some 3, some 4, some 5] [(0, .ptr 0 0), (2, .ptr 2 0), (3, .ptr 3 0), (4, .osl 4 (64 * k) (64 * (k + 1)) 1 (N - 64 * (k + 1))), (6, .ptr 5 0)] [.cells true [.int .u32 (nat (w 0)), .int .u32 (nat (w 1)), .int .u32 (nat (w 2)), .int .u32 (nat (w 3)), .int .u32 (nat (w 4)), .int .u32 (nat (w 5)), .int .u32 (nat (w 6)), .int .u32 (nat (w 7)), .osl 1 0 0 1 n, .int .i64 (cnt : Nat)], .row true n 1 (fun i => .int .u8 (nat (L i))), .cells true [.fam 32 1 fun _ => .int .u8 0], .cells true [.fam 32 1 fun _ => .int .u8 0], .row true N 1 (fun i => .int .u8 (nat (T i))), .cells true [.int .u32 (nat (blk w T (k + 1) 0)), .int .u32 (nat (blk w T (k + 1) 1)), .int .u32 (nat (blk w T (k + 1) 2)), .int .u32 (nat (blk w T (k + 1) 3)), .int .u32 (nat (blk w T (k + 1) 4)), .int .u32 (nat (blk w T (k + 1) 5)), .int .u32 (nat (blk w T (k + 1) 6)), .int .u32 (nat (blk w T (k + 1) 7))]] ?_ ?_ ?_ ?_ ?_ ?_ ?_ ?_
                · simp [slot, lkL, fixed, rg, renH, chEq, lookH, eqvL, eqv, eqvF, rnmL, rnm, liveN, Chunk.live, goodH, Chunk.good, okL, ok, sz, szL, storL, stor, renT, okT]
                · simp [slot, lkL, fixed, rg, renH, chEq, lookH, eqvL, eqv, eqvF, rnmL, rnm, liveN, Chunk.live, goodH, Chunk.good, okL, ok, sz, szL, storL, stor, renT, okT]
                · simp [slot, lkL, fixed, rg, renH, chEq, lookH, eqvL, eqv, eqvF, rnmL, rnm, liveN, Chunk.live, goodH, Chunk.good, okL, ok, sz, szL, storL, stor, renT, okT, blk]
                · simp [slot, lkL, fixed, rg, renH, chEq, lookH, eqvL, eqv, eqvF, rnmL, rnm, liveN, Chunk.live, goodH, Chunk.good, okL, ok, sz, szL, storL, stor, renT, okT]
                · simp [slot, lkL, fixed, rg, renH, chEq, lookH, eqvL, eqv, eqvF, rnmL, rnm, liveN, Chunk.live, goodH, Chunk.good, okL, ok, sz, szL, storL, stor, renT, okT]
                · simp [slot, lkL, fixed, rg, renH, chEq, lookH, eqvL, eqv, eqvF, rnmL, rnm, liveN, Chunk.live, goodH, Chunk.good, okL, ok, sz, szL, storL, stor, renT, okT, Nat.mul_add]
                  try omega
                · simp [slot, lkL, fixed, rg, renH, chEq, lookH, eqvL, eqv, eqvF, rnmL, rnm, liveN, Chunk.live, goodH, Chunk.good, okL, ok, sz, szL, storL, stor, renT, okT]
                · intro j
                  exact ⟨m3 - 1, by omega, k + 1, 64 * k, j, by omega, rfl⟩
            · have hk4 : k = N / 64 := by have := of_decide_eq_false hc'; omega
              subst hk4
              obtain ⟨V, hV⟩ : ∃ V, V = blk w T (N / 64) := ⟨_, rfl⟩
              rw [← hV] at hK ⊢
              refine codeP_loop (pl := np) tabOk follows_mixed (by kernel_rfl) (fun m s => ∃ (k : Nat) (j : Nat → Value), k + m = 8 ∧ s = ⟨⟨88, [(0, .ptr 0 0), (2, .ptr 2 0), (3, .ptr 3 0), (55, .fam 8 1 fun i => .int .u32 (nat (V i))), (56, .int .i64 (k : Nat))], j⟩, [.cells true [.int .u32 (nat (w 0)), .int .u32 (nat (w 1)), .int .u32 (nat (w 2)), .int .u32 (nat (w 3)), .int .u32 (nat (w 4)), .int .u32 (nat (w 5)), .int .u32 (nat (w 6)), .int .u32 (nat (w 7)), .osl 1 0 0 1 n, .int .i64 (cnt : Nat)], .row true n 1 (fun i => .int .u8 (nat (L i))), .cells true [.fam 32 1 fun _ => .int .u8 0], .cells true [.fam 32 1 fun i => .int .u8 (nat (if i < 4 * k then dig V i else 0))]], []⟩) ?_ ?_
              · refine into_mk [some 0, some 1, some 2, some 3] [(0, .ptr 0 0), (2, .ptr 2 0), (3, .ptr 3 0), (55, .fam 8 1 fun i => .int .u32 (nat (V i))), (56, .int .i64 (0 : Nat))] [.cells true [.int .u32 (nat (w 0)), .int .u32 (nat (w 1)), .int .u32 (nat (w 2)), .int .u32 (nat (w 3)), .int .u32 (nat (w 4)), .int .u32 (nat (w 5)), .int .u32 (nat (w 6)), .int .u32 (nat (w 7)), .osl 1 0 0 1 n, .int .i64 (cnt : Nat)], .row true n 1 (fun i => .int .u8 (nat (L i))), .cells true [.fam 32 1 fun _ => .int .u8 0], .cells true [.fam 32 1 fun i => .int .u8 (nat (if i < 4 * 0 then dig V i else 0))]] ?_ ?_ ?_ ?_ ?_ ?_ ?_ ?_
                · simp [slot, lkL, fixed, rg, renH, chEq, lookH, eqvL, eqv, eqvF, rnmL, rnm, liveN, Chunk.live, goodH, Chunk.good, okL, ok, sz, szL, storL, stor, renT, okT]
                · simp [slot, lkL, fixed, rg, renH, chEq, lookH, eqvL, eqv, eqvF, rnmL, rnm, liveN, Chunk.live, goodH, Chunk.good, okL, ok, sz, szL, storL, stor, renT, okT]
                · simp [slot, lkL, fixed, rg, renH, chEq, lookH, eqvL, eqv, eqvF, rnmL, rnm, liveN, Chunk.live, goodH, Chunk.good, okL, ok, sz, szL, storL, stor, renT, okT, nat]
                · simp [slot, lkL, fixed, rg, renH, chEq, lookH, eqvL, eqv, eqvF, rnmL, rnm, liveN, Chunk.live, goodH, Chunk.good, okL, ok, sz, szL, storL, stor, renT, okT]
                · simp [slot, lkL, fixed, rg, renH, chEq, lookH, eqvL, eqv, eqvF, rnmL, rnm, liveN, Chunk.live, goodH, Chunk.good, okL, ok, sz, szL, storL, stor, renT, okT]
                · simp [slot, lkL, fixed, rg, renH, chEq, lookH, eqvL, eqv, eqvF, rnmL, rnm, liveN, Chunk.live, goodH, Chunk.good, okL, ok, sz, szL, storL, stor, renT, okT]
                · simp [slot, lkL, fixed, rg, renH, chEq, lookH, eqvL, eqv, eqvF, rnmL, rnm, liveN, Chunk.live, goodH, Chunk.good, okL, ok, sz, szL, storL, stor, renT, okT]
                · intro j
                  exact ⟨8, 0, j, by omega, rfl⟩
              · rintro m4 s ⟨k, j4, hk, rfl⟩
                have a0 : IntKind.i64.wrap (4 * (k : Int)) = ((4 * k : Nat) : Int) := by rw [wrap64 (by omega) (by omega)]; omega
                have a1 : IntKind.i64.wrap (((4 * k : Nat) : Int) + 1) = ((4 * k + 1 : Nat) : Int) := by rw [wrap64 (by omega) (by omega)]; omega
                have a2 : IntKind.i64.wrap (((4 * k : Nat) : Int) + 2) = ((4 * k + 2 : Nat) : Int) := by rw [wrap64 (by omega) (by omega)]; omega
                have a3 : IntKind.i64.wrap (((4 * k : Nat) : Int) + 3) = ((4 * k + 3 : Nat) : Int) := by rw [wrap64 (by omega) (by omega)]; omega
                have a4 : IntKind.i64.wrap ((k : Int) + 1) = ((k + 1 : Nat) : Int) := by rw [wrap64 (by omega) (by omega)]; omega
                simp -implicitDefEqProofs (maxSteps := 1000000) (disch := omega) only [↓vcB, ↓gd, ↓opP, ↓qv, ↓ef, ↓bslS, ↓stS, ↓mkS, ↓mupS, ↓appS, ↓s2bS, ↓resS, evB, Sx.look, slot, ↓lkL, putS, putO, argsL, ↓reduceIte, ofV, of1, lookH, putH, List.length_cons, List.length_nil, List.length_append, List.replicate, List.append, List.cons_append, List.nil_append, List.append_assoc, List.map_cons, List.map_nil, convS, fldA, nthT, idxA, idxS, fldS, oslN, bnd, slS, unS, valI, lenS, lookS, takeC, parts, asRow, single, rdF, Ent.row, ldS, sz, szL, wrF, bldF, plT, bldS, srcS, nilS, nilEq, binS2, structS, eqL, eqF, binS, arrS, isI, tupS, stor, storL, Value.oneCell', minS, maxS, capS, true_and, and_true, Nat.reduceAdd, Nat.reduceSub, Nat.reduceMul, Nat.reduceLT, Nat.reduceLeDiff, Nat.reduceEqDiff, Nat.reduceBEq, Int.reduceToNat, Int.reduceNeg, Nat.zero_add, Nat.add_zero, Nat.sub_self, Nat.sub_zero, Nat.zero_mul, Nat.mul_one, Nat.zero_le, if_true, if_false, reduceIte, stays, inL, same1, qn, ldN, convN, lenN, List.mem_cons, List.not_mem_nil, Option.map_some, Option.map_none, cond_true, cond_false, Sx.imp_true, Sx.imp_false, implies_true, Int.reduceEq, Int.reduceNe, Int.reduceLE, Int.reduceLT, decide_true, decide_false, List.zipIdx_cons, List.zipIdx_nil, or_false, false_or, forall_eq_or_imp, forall_eq, ne_eq, reduceCtorEq, not_false_eq_true, Bool.false_eq_true, Bool.true_eq_false, Bool.not_true, Bool.not_false, notInt, numB, tabB, ↓Array.reduceGetElem?, a0, a1, a2, a3, a4, Int.toNat_natCast, res19]
                refine ⟨Sx.imp_intro fun hc' => ?_, Sx.imp_intro fun hc' => ?_⟩
                · have hk3 : k < 8 := by have := of_decide_eq_true hc'; omega
                  and_intros <;> try omega
                  refine into_mk [some 0, some 1, some 2, some 3] [(0, .ptr 0 0), (2, .ptr 2 0), (3, .ptr 3 0), (55, .fam 8 1 fun i => .int .u32 (nat (V i))), (56, .int .i64 (k + 1 : Nat))] [.cells true [.int .u32 (nat (w 0)), .int .u32 (nat (w 1)), .int .u32 (nat (w 2)), .int .u32 (nat (w 3)), .int .u32 (nat (w 4)), .int .u32 (nat (w 5)), .int .u32 (nat (w 6)), .int .u32 (nat (w 7)), .osl 1 0 0 1 n, .int .i64 (cnt : Nat)], .row true n 1 (fun i => .int .u8 (nat (L i))), .cells true [.fam 32 1 fun _ => .int .u8 0], .cells true [.fam 32 1 fun i => .int .u8 (nat (if i < 4 * (k + 1) then dig V i else 0))]] ?_ ?_ ?_ ?_ ?_ ?_ ?_ ?_
                  · simp [slot, lkL, fixed, rg, renH, chEq, lookH, eqvL, eqv, eqvF, rnmL, rnm, liveN, Chunk.live, goodH, Chunk.good, okL, ok, sz, szL, storL, stor, renT, okT]
                  · simp [slot, lkL, fixed, rg, renH, chEq, lookH, eqvL, eqv, eqvF, rnmL, rnm, liveN, Chunk.live, goodH, Chunk.good, okL, ok, sz, szL, storL, stor, renT, okT]
                  · simp [slot, lkL, fixed, rg, renH, chEq, lookH, eqvL, eqv, eqvF, rnmL, rnm, liveN, Chunk.live, goodH, Chunk.good, okL, ok, sz, szL, storL, stor, renT, okT]
                    intro i hi
                    by_cases h3 : i = 4 * k + 3
                    · subst h3
                      simp [eqv, dig, show 4 * k + 3 < 4 * (k + 1) by omega, show (4 * k + 3) / 4 = k by omega, show (4 * k + 3) % 4 = 3 by omega]
                    by_cases h2 : i = 4 * k + 2
                    · subst h2
                      simp [eqv, dig, show 4 * k + 2 < 4 * (k + 1) by omega, show (4 * k + 2) / 4 = k by omega, show (4 * k + 2) % 4 = 2 by omega]
                    by_cases h1 : i = 4 * k + 1
                    · subst h1
                      simp [eqv, dig, show 4 * k + 1 < 4 * (k + 1) by omega, show (4 * k + 1) / 4 = k by omega, show (4 * k + 1) % 4 = 1 by omega]
                    by_cases h0 : i = 4 * k
                    · subst h0
                      simp [eqv, dig, show 4 * k < 4 * (k + 1) by omega, show (4 * k) / 4 = k by omega, show (4 * k) % 4 = 0 by omega]
                    · have e : (i < 4 * (k + 1)) = (i < 4 * k) := by simp only [eq_iff_iff]; omega
                      simp only [h3, h2, h1, h0, if_false, e, eqv]
                  · simp [slot, lkL, fixed, rg, renH, chEq, lookH, eqvL, eqv, eqvF, rnmL, rnm, liveN, Chunk.live, goodH, Chunk.good, okL, ok, sz, szL, storL, stor, renT, okT]
                  · simp [slot, lkL, fixed, rg, renH, chEq, lookH, eqvL, eqv, eqvF, rnmL, rnm, liveN, Chunk.live, goodH, Chunk.good, okL, ok, sz, szL, storL, stor, renT, okT]
                  · simp [slot, lkL, fixed, rg, renH, chEq, lookH, eqvL, eqv, eqvF, rnmL, rnm, liveN, Chunk.live, goodH, Chunk.good, okL, ok, sz, szL, storL, stor, renT, okT]
                  · simp [slot, lkL, fixed, rg, renH, chEq, lookH, eqvL, eqv, eqvF, rnmL, rnm, liveN, Chunk.live, goodH, Chunk.good, okL, ok, sz, szL, storL, stor, renT, okT]
                  · intro j
                    exact ⟨m4 - 1, by omega, k + 1, j, by omega, rfl⟩
                · have hk4 : k = 8 := by have := of_decide_eq_false hc'; omega
                  subst hk4
                  refine intoR_mk [some 0, some 1] (.fam 32 1 fun i => .int .u8 (nat (dig V i))) [.cells true [.int .u32 (nat (w 0)), .int .u32 (nat (w 1)), .int .u32 (nat (w 2)), .int .u32 (nat (w 3)), .int .u32 (nat (w 4)), .int .u32 (nat (w 5)), .int .u32 (nat (w 6)), .int .u32 (nat (w 7)), .osl 1 0 0 1 n, .int .i64 (cnt : Nat)], .row true n 1 (fun i => .int .u8 (nat (L i)))] ?_ ?_ ?_ ?_ ?_ ?_ ?_ hK
                  · simp [slot, lkL, fixed, rg, renH, chEq, lookH, eqvL, eqv, eqvF, rnmL, rnm, liveN, Chunk.live, goodH, Chunk.good, okL, ok, sz, szL, storL, stor, renT, okT]
                  · simp [slot, lkL, fixed, rg, renH, chEq, lookH, eqvL, eqv, eqvF, rnmL, rnm, liveN, Chunk.live, goodH, Chunk.good, okL, ok, sz, szL, storL, stor, renT, okT]
                  · simp [slot, lkL, fixed, rg, renH, chEq, lookH, eqvL, eqv, eqvF, rnmL, rnm, liveN, Chunk.live, goodH, Chunk.good, okL, ok, sz, szL, storL, stor, renT, okT]
                  · simp [slot, lkL, fixed, rg, renH, chEq, lookH, eqvL, eqv, eqvF, rnmL, rnm, liveN, Chunk.live, goodH, Chunk.good, okL, ok, sz, szL, storL, stor, renT, okT]
                  · simp [slot, lkL, fixed, rg, renH, chEq, lookH, eqvL, eqv, eqvF, rnmL, rnm, liveN, Chunk.live, goodH, Chunk.good, okL, ok, sz, szL, storL, stor, renT, okT]
                  · simp [slot, lkL, fixed, rg, renH, chEq, lookH, eqvL, eqv, eqvF, rnmL, rnm, liveN, Chunk.live, goodH, Chunk.good, okL, ok, sz, szL, storL, stor, renT, okT]
                    intro i hi
                    simp [hi, eqv]
                  · simp [slot, lkL, fixed, rg, renH, chEq, lookH, eqvL, eqv, eqvF, rnmL, rnm, liveN, Chunk.live, goodH, Chunk.good, okL, ok, sz, szL, storL, stor, renT, okT]
        · have f1 : IntKind.i64.wrap (8 * (7 - (k : Int))) = ((8 * (7 - k) : Nat) : Int) := by rw [wrap64 (by omega) (by omega)]; omega
          have f2 : IntKind.i64.wrap ((7 - (k : Int)) - 1) = 7 - ((k + 1 : Nat) : Int) := by rw [wrap64 (by omega) (by omega)]; omega
          have f3 : (decide ((7 - (k : Int)) ≥ 0)) = true := by simp; omega
          simp -implicitDefEqProofs (maxSteps := 1000000) (disch := omega) only [↓vcB, ↓gd, ↓opP, ↓qv, ↓ef, ↓bslS, ↓stS, ↓mkS, ↓mupS, ↓appS, ↓s2bS, ↓resS, evB, Sx.look, slot, ↓lkL, putS, putO, argsL, ↓reduceIte, ofV, of1, lookH, putH, List.length_cons, List.length_nil, List.length_append, List.replicate, List.append, List.cons_append, List.nil_append, List.append_assoc, List.map_cons, List.map_nil, convS, fldA, nthT, idxA, idxS, fldS, oslN, bnd, slS, unS, valI, lenS, lookS, takeC, parts, asRow, single, rdF, Ent.row, ldS, sz, szL, wrF, bldF, plT, bldS, srcS, nilS, nilEq, binS2, structS, eqL, eqF, binS, arrS, isI, tupS, stor, storL, Value.oneCell', minS, maxS, capS, true_and, and_true, Nat.reduceAdd, Nat.reduceSub, Nat.reduceMul, Nat.reduceLT, Nat.reduceLeDiff, Nat.reduceEqDiff, Nat.reduceBEq, Int.reduceToNat, Int.reduceNeg, Nat.zero_add, Nat.add_zero, Nat.sub_self, Nat.sub_zero, Nat.zero_mul, Nat.mul_one, Nat.zero_le, if_true, if_false, reduceIte, stays, inL, same1, qn, ldN, convN, lenN, List.mem_cons, List.not_mem_nil, Option.map_some, Option.map_none, cond_true, cond_false, Sx.imp_true, Sx.imp_false, implies_true, Int.reduceEq, Int.reduceNe, Int.reduceLE, Int.reduceLT, decide_true, decide_false, List.zipIdx_cons, List.zipIdx_nil, or_false, false_or, forall_eq_or_imp, forall_eq, ne_eq, reduceCtorEq, not_false_eq_true, Bool.false_eq_true, Bool.true_eq_false, Bool.not_true, Bool.not_false, notInt, numB, tabB, Array.reduceGetElem?, f0, f1, f2, f3, Int.toNat_natCast]
          and_intros <;> try omega
          refine into_mk [some 0, some 1, some 2, some 3, some 6] [(0, .ptr 0 0), (2, .ptr 2 0), (3, .ptr 3 0), (4, .osl 4 0 0 1 (n + 1 + zs n + (k + 1))), (5, .int .i64 (7 - (k + 1 : Nat)))] [.cells true [.int .u32 (nat (w 0)), .int .u32 (nat (w 1)), .int .u32 (nat (w 2)), .int .u32 (nat (w 3)), .int .u32 (nat (w 4)), .int .u32 (nat (w 5)), .int .u32 (nat (w 6)), .int .u32 (nat (w 7)), .osl 1 0 0 1 n, .int .i64 (cnt : Nat)], .row true n 1 (fun i => .int .u8 (nat (L i))), .cells true [.fam 32 1 fun _ => .int .u8 0], .cells true [.fam 32 1 fun _ => .int .u8 0], .row true (n + 1 + zs n + (k + 1)) 1 fun i => .int .u8 (nat (padF n (BitVec.ofNat 64 cnt) L i))] ?_ ?_ ?_ ?_ ?_ ?_ ?_ ?_
          · simp [slot, lkL, fixed, rg, renH, chEq, lookH, eqvL, eqv, eqvF, rnmL, rnm, liveN, Chunk.live, goodH, Chunk.good, okL, ok, sz, szL, storL, stor, renT, okT]
          · simp [slot, lkL, fixed, rg, renH, chEq, lookH, eqvL, eqv, eqvF, rnmL, rnm, liveN, Chunk.live, goodH, Chunk.good, okL, ok, sz, szL, storL, stor, renT, okT]
          · simp [slot, lkL, fixed, rg, renH, chEq, lookH, eqvL, eqv, eqvF, rnmL, rnm, liveN, Chunk.live, goodH, Chunk.good, okL, ok, sz, szL, storL, stor, renT, okT]
            refine ⟨by omega, fun i hi => ?_⟩
            by_cases h : i < n + 1 + zs n + k
            · simp [h, eqv]
            · have h2 : i = n + 1 + zs n + k := by omega
              subst h2
              simp [padF, eqv, Sx.look, show ¬ n + 1 + zs n + k < n + 1 + zs n by omega]
          · simp [slot, lkL, fixed, rg, renH, chEq, lookH, eqvL, eqv, eqvF, rnmL, rnm, liveN, Chunk.live, goodH, Chunk.good, okL, ok, sz, szL, storL, stor, renT, okT]
          · simp [slot, lkL, fixed, rg, renH, chEq, lookH, eqvL, eqv, eqvF, rnmL, rnm, liveN, Chunk.live, goodH, Chunk.good, okL, ok, sz, szL, storL, stor, renT, okT]
          · simp [slot, lkL, fixed, rg, renH, chEq, lookH, eqvL, eqv, eqvF, rnmL, rnm, liveN, Chunk.live, goodH, Chunk.good, okL, ok, sz, szL, storL, stor, renT, okT]
            omega
          · simp [slot, lkL, fixed, rg, renH, chEq, lookH, eqvL, eqv, eqvF, rnmL, rnm, liveN, Chunk.live, goodH, Chunk.good, okL, ok, sz, szL, storL, stor, renT, okT]
          · intro j
            exact ⟨m2 - 1, by omega, k + 1, j, by omega, rfl⟩
end Go.Proofs.Ytbjelfgclhmedaa
