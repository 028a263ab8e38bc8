/- Contracts of functions that the laws reach, by the symbolic executor of the texts Sxa to Sxt. No condition. -/
import Derived.Test.YtbjelfgclhmedaaU11
set_option linter.all false
set_option maxRecDepth 40000
namespace Go.Proofs.Ytbjelfgclhmedaa
open Go Go.Sx

/-- How many of the primes lie below. -/
def cntP (p : Nat) : Nat := (primeL.filter fun q => decide (q.toNat < p)).length
def allP (p k : Nat) : Bool := decide (∀ q, q < k → p % (primeB q).toNat ≠ 0)
theorem prime_yes : ∀ p, p < 312 → 2 ≤ p → allP p (cntP p) = true → (primeB (cntP p)).toNat = p ∧ cntP (p + 1) = cntP p + 1 := by decide +kernel
theorem prime_no : ∀ p, p < 312 → 2 ≤ p → allP p (cntP p) = false → cntP (p + 1) = cntP p := by decide +kernel
theorem prime_more : ∀ p, p < 312 → cntP p < 64 := by decide +kernel
theorem prime_end : cntP 312 = 64 := by decide +kernel
theorem prime_pos : ∀ i, i < 64 → 0 < (primeB i).toNat := by decide +kernel
theorem cnt2 : cntP 2 = 0 := by decide +kernel
theorem res55 : Try.f55.results.toList = [.cell 0 83] := rfl
set_option maxHeartbeats 4000000 in
theorem c55l (K : Tok → SV → List Chunk → Prop) (hK : K .mk (.fam 64 1 fun i => .int .u64 (nat (primeB i))) []) : callP Try.prog 55 [] [] K := by
  refine callP_of_code tabOk Try.func55 (by kernel_rfl) rfl (Nat.le_of_ble_eq_true rfl) (codeP_of_vc (pl := np) tabOk follows_mixed (by kernel_rfl) ?_)
  rw [Try.ntmps55]
  simp -implicitDefEqProofs (maxSteps := 1000000) (disch := omega) only [↓vcB, ↓gd, ↓opP, ↓qv, ↓ef, ↓bslS, ↓stS, ↓mkS, ↓mupS, ↓appS, ↓s2bS, ↓resS, evB, Sx.look, slot, ↓lkL, putS, putO, argsL, ↓reduceIte, ofV, of1, lookH, putH, List.length_cons, List.length_nil, List.length_append, List.replicate, List.append, List.cons_append, List.nil_append, List.append_assoc, List.map_cons, List.map_nil, convS, fldA, nthT, idxA, idxS, fldS, oslN, bnd, slS, unS, valI, lenS, lookS, takeC, parts, asRow, single, rdF, Ent.row, ldS, sz, szL, wrF, bldF, plT, bldS, srcS, nilS, nilEq, binS2, structS, eqL, eqF, binS, arrS, isI, tupS, stor, storL, Value.oneCell', minS, maxS, capS, true_and, and_true, Nat.reduceAdd, Nat.reduceSub, Nat.reduceMul, Nat.reduceLT, Nat.reduceLeDiff, Nat.reduceEqDiff, Nat.reduceBEq, Int.reduceToNat, Int.reduceNeg, Nat.zero_add, Nat.add_zero, Nat.sub_self, Nat.sub_zero, Nat.zero_mul, Nat.mul_one, Nat.zero_le, if_true, if_false, reduceIte, stays, inL, same1, qn, ldN, convN, lenN, List.mem_cons, List.not_mem_nil, Option.map_some, Option.map_none, cond_true, cond_false, Sx.imp_true, Sx.imp_false, implies_true, Int.reduceEq, Int.reduceNe, Int.reduceLE, Int.reduceLT, decide_true, decide_false, List.zipIdx_cons, List.zipIdx_nil, or_false, false_or, forall_eq_or_imp, forall_eq, ne_eq, reduceCtorEq, not_false_eq_true, Bool.false_eq_true, Bool.true_eq_false, Bool.not_true, Bool.not_false, notInt, numB, tabB, Array.reduceGetElem?, res55]
  refine codeP_loop (pl := np) tabOk follows_mixed (by kernel_rfl) (fun m s => ∃ (p : Nat) (j : Nat → Value), p + m = 312 ∧ 2 ≤ p ∧ s = ⟨⟨33, [(0, .ptr 0 0), (1, .ptr 1 0), (2, .int .i64 (cntP p : Nat)), (3, .int .u64 (p : Nat))], j⟩, [.cells true [.fam 64 1 fun _ => .int .u64 0], .cells true [.fam 64 1 fun i => .int .u64 (nat (if i < cntP p then primeB i else 0))]], []⟩) ?_ ?_
  · refine into_mk [some 0, some 1] [(0, .ptr 0 0), (1, .ptr 1 0), (2, .int .i64 (cntP 2 : Nat)), (3, .int .u64 (2 : Nat))] [.cells true [.fam 64 1 fun _ => .int .u64 0], .cells true [.fam 64 1 fun i => .int .u64 (nat (if i < cntP 2 then primeB i else 0))]] ?_ ?_ ?_ ?_ ?_ ?_ ?_ ?_
    · simp [slot, lkL, fixed, rg, renH, chEq, lookH, eqvL, eqv, eqvF, rnmL, rnm, liveN, Chunk.live, goodH, Chunk.good, okL, ok, sz, szL, storL, stor, renT, okT]
    · simp [slot, lkL, fixed, rg, renH, chEq, lookH, eqvL, eqv, eqvF, rnmL, rnm, liveN, Chunk.live, goodH, Chunk.good, okL, ok, sz, szL, storL, stor, renT, okT]
    · simp [slot, lkL, fixed, rg, renH, chEq, lookH, eqvL, eqv, eqvF, rnmL, rnm, liveN, Chunk.live, goodH, Chunk.good, okL, ok, sz, szL, storL, stor, renT, okT, cnt2, nat]
    · simp [slot, lkL, fixed, rg, renH, chEq, lookH, eqvL, eqv, eqvF, rnmL, rnm, liveN, Chunk.live, goodH, Chunk.good, okL, ok, sz, szL, storL, stor, renT, okT]
    · simp [slot, lkL, fixed, rg, renH, chEq, lookH, eqvL, eqv, eqvF, rnmL, rnm, liveN, Chunk.live, goodH, Chunk.good, okL, ok, sz, szL, storL, stor, renT, okT]
    · simp [slot, lkL, fixed, rg, renH, chEq, lookH, eqvL, eqv, eqvF, rnmL, rnm, liveN, Chunk.live, goodH, Chunk.good, okL, ok, sz, szL, storL, stor, renT, okT, cnt2]
    · simp [slot, lkL, fixed, rg, renH, chEq, lookH, eqvL, eqv, eqvF, rnmL, rnm, liveN, Chunk.live, goodH, Chunk.good, okL, ok, sz, szL, storL, stor, renT, okT]
    · intro j
      exact ⟨310, 2, j, by omega, by omega, rfl⟩
  · rintro m s ⟨p, j, hp, hp2, rfl⟩
    obtain ⟨N, hN⟩ : ∃ N, N = cntP p := ⟨_, rfl⟩
    rw [← hN]
    simp -implicitDefEqProofs (maxSteps := 1000000) (disch := omega) only [↓vcB, ↓gd, ↓opP, ↓qv, ↓ef, ↓bslS, ↓stS, ↓mkS, ↓mupS, ↓appS, ↓s2bS, ↓resS, evB, Sx.look, slot, ↓lkL, putS, putO, argsL, ↓reduceIte, ofV, of1, lookH, putH, List.length_cons, List.length_nil, List.length_append, List.replicate, List.append, List.cons_append, List.nil_append, List.append_assoc, List.map_cons, List.map_nil, convS, fldA, nthT, idxA, idxS, fldS, oslN, bnd, slS, unS, valI, lenS, lookS, takeC, parts, asRow, single, rdF, Ent.row, ldS, sz, szL, wrF, bldF, plT, bldS, srcS, nilS, nilEq, binS2, structS, eqL, eqF, binS, arrS, isI, tupS, stor, storL, Value.oneCell', minS, maxS, capS, true_and, and_true, Nat.reduceAdd, Nat.reduceSub, Nat.reduceMul, Nat.reduceLT, Nat.reduceLeDiff, Nat.reduceEqDiff, Nat.reduceBEq, Int.reduceToNat, Int.reduceNeg, Nat.zero_add, Nat.add_zero, Nat.sub_self, Nat.sub_zero, Nat.zero_mul, Nat.mul_one, Nat.zero_le, if_true, if_false, reduceIte, stays, inL, same1, qn, ldN, convN, lenN, List.mem_cons, List.not_mem_nil, Option.map_some, Option.map_none, cond_true, cond_false, Sx.imp_true, Sx.imp_false, implies_true, Int.reduceEq, Int.reduceNe, Int.reduceLE, Int.reduceLT, decide_true, decide_false, List.zipIdx_cons, List.zipIdx_nil, or_false, false_or, forall_eq_or_imp, forall_eq, ne_eq, reduceCtorEq, not_false_eq_true, Bool.false_eq_true, Bool.true_eq_false, Bool.not_true, Bool.not_false, notInt, numB, tabB, Array.reduceGetElem?, res55, Int.toNat_natCast]
    refine ⟨Sx.imp_intro fun hc => ?_, Sx.imp_intro fun hc => ?_⟩
    · have hN64 : N < 64 := by have := of_decide_eq_true hc; omega
      have hp312 : p < 312 := by
        rcases Nat.lt_or_ge p 312 with h | h
        · exact h
        · have h2 : p = 312 := by omega
          rw [h2, prime_end] at hN
          omega
      have hm0 : 0 < m := by omega
      refine ⟨by omega, ?_⟩
      refine codeP_loop (pl := np) tabOk follows_mixed (by kernel_rfl) (fun m' s => ∃ (k : Nat) (j : Nat → Value), k + m' = N ∧ s = ⟨⟨33, [(0, .ptr 0 0), (1, .ptr 1 0), (2, .int .i64 (N : Nat)), (3, .int .u64 (p : Nat)), (4, .bool (allP p k)), (12, .sl 1 0 0 1 N 64), (13, .int .i64 (N : Nat)), (14, .int .i64 (k : Nat))], j⟩, [.cells true [.fam 64 1 fun _ => .int .u64 0], .cells true [.fam 64 1 fun i => .int .u64 (nat (if i < N then primeB i else 0))]], []⟩) ?_ ?_
      · refine into_mk [some 0, some 1] [(0, .ptr 0 0), (1, .ptr 1 0), (2, .int .i64 (N : Nat)), (3, .int .u64 (p : Nat)), (4, .bool (allP p 0)), (12, .sl 1 0 0 1 N 64), (13, .int .i64 (N : Nat)), (14, .int .i64 (0 : Nat))] [.cells true [.fam 64 1 fun _ => .int .u64 0], .cells true [.fam 64 1 fun i => .int .u64 (nat (if i < N then primeB i else 0))]] ?_ ?_ ?_ ?_ ?_ ?_ ?_ ?_
        · simp [slot, lkL, fixed, rg, renH, chEq, lookH, eqvL, eqv, eqvF, rnmL, rnm, liveN, Chunk.live, goodH, Chunk.good, okL, ok, sz, szL, storL, stor, renT, okT]
        · simp [slot, lkL, fixed, rg, renH, chEq, lookH, eqvL, eqv, eqvF, rnmL, rnm, liveN, Chunk.live, goodH, Chunk.good, okL, ok, sz, szL, storL, stor, renT, okT]
        · simp [slot, lkL, fixed, rg, renH, chEq, lookH, eqvL, eqv, eqvF, rnmL, rnm, liveN, Chunk.live, goodH, Chunk.good, okL, ok, sz, szL, storL, stor, renT, okT]
        · simp [slot, lkL, fixed, rg, renH, chEq, lookH, eqvL, eqv, eqvF, rnmL, rnm, liveN, Chunk.live, goodH, Chunk.good, okL, ok, sz, szL, storL, stor, renT, okT]
        · simp [slot, lkL, fixed, rg, renH, chEq, lookH, eqvL, eqv, eqvF, rnmL, rnm, liveN, Chunk.live, goodH, Chunk.good, okL, ok, sz, szL, storL, stor, renT, okT]
        · simp [slot, lkL, fixed, rg, renH, chEq, lookH, eqvL, eqv, eqvF, rnmL, rnm, liveN, Chunk.live, goodH, Chunk.good, okL, ok, sz, szL, storL, stor, renT, okT, allP]
        · simp [slot, lkL, fixed, rg, renH, chEq, lookH, eqvL, eqv, eqvF, rnmL, rnm, liveN, Chunk.live, goodH, Chunk.good, okL, ok, sz, szL, storL, stor, renT, okT]
        · intro j
          exact ⟨N, 0, j, by omega, rfl⟩
      · rintro m' s ⟨k, j2, hk, rfl⟩
        have a0 : IntKind.i64.wrap ((k : Int) + 1) = ((k + 1 : Nat) : Int) := by rw [wrap64 (by omega) (by omega)]; omega
        have a1 : IntKind.i64.wrap ((N : Int) + 1) = ((N + 1 : Nat) : Int) := by rw [wrap64 (by omega) (by omega)]; omega
        have a2 : IntKind.u64.wrap ((p : Int) + 1) = ((p + 1 : Nat) : Int) := Go.Sx.wrap_small (k := .u64) rfl (by omega) (by rw [show IntKind.u64.bits = 64 from rfl]; omega)
        simp -implicitDefEqProofs (maxSteps := 1000000) (disch := omega) only [↓vcB, ↓gd, ↓opP, ↓qv, ↓ef, ↓bslS, ↓stS, ↓mkS, ↓mupS, ↓appS, ↓s2bS, ↓resS, evB, Sx.look, slot, ↓lkL, putS, putO, argsL, ↓reduceIte, ofV, of1, lookH, putH, List.length_cons, List.length_nil, List.length_append, List.replicate, List.append, List.cons_append, List.nil_append, List.append_assoc, List.map_cons, List.map_nil, convS, fldA, nthT, idxA, idxS, fldS, oslN, bnd, slS, unS, valI, lenS, lookS, takeC, parts, asRow, single, rdF, Ent.row, ldS, sz, szL, wrF, bldF, plT, bldS, srcS, nilS, nilEq, binS2, structS, eqL, eqF, binS, arrS, isI, tupS, stor, storL, Value.oneCell', minS, maxS, capS, true_and, and_true, Nat.reduceAdd, Nat.reduceSub, Nat.reduceMul, Nat.reduceLT, Nat.reduceLeDiff, Nat.reduceEqDiff, Nat.reduceBEq, Int.reduceToNat, Int.reduceNeg, Nat.zero_add, Nat.add_zero, Nat.sub_self, Nat.sub_zero, Nat.zero_mul, Nat.mul_one, Nat.zero_le, if_true, if_false, reduceIte, stays, inL, same1, qn, ldN, convN, lenN, List.mem_cons, List.not_mem_nil, Option.map_some, Option.map_none, cond_true, cond_false, Sx.imp_true, Sx.imp_false, implies_true, Int.reduceEq, Int.reduceNe, Int.reduceLE, Int.reduceLT, decide_true, decide_false, List.zipIdx_cons, List.zipIdx_nil, or_false, false_or, forall_eq_or_imp, forall_eq, ne_eq, reduceCtorEq, not_false_eq_true, Bool.false_eq_true, Bool.true_eq_false, Bool.not_true, Bool.not_false, notInt, numB, tabB, Array.reduceGetElem?, res55, Int.toNat_natCast, a0, a1, a2]
        refine ⟨Sx.imp_intro fun hc2 => ?_, Sx.imp_intro fun hc2 => ?_⟩
        · have hkN : k < N := by have := of_decide_eq_true hc2; omega
          have hpos := prime_pos k (by omega)
          have hv : nat (if k < N then primeB k else 0) = ((primeB k).toNat : Int) := by simp only [hkN, if_true]; rfl
          have hr : ((p : Int).tmod (nat (if k < N then primeB k else 0)) != 0) = decide (p % (primeB k).toNat ≠ 0) := by
            rw [hv, Int.tmod_eq_emod_of_nonneg (by omega), ← Int.natCast_emod]
            rw [Bool.eq_iff_iff]
            simp only [bne_iff_ne, ne_eq, decide_eq_true_eq]
            omega
          have hs : allP p (k + 1) = (allP p k && decide (p % (primeB k).toNat ≠ 0)) := by
            rw [Bool.eq_iff_iff]
            simp only [allP, Bool.and_eq_true, decide_eq_true_eq]
            constructor
            · exact fun h => ⟨fun q hq => h q (by omega), h k (by omega)⟩
            · rintro ⟨h1, h2⟩ q hq
              by_cases e : q = k
              · exact e ▸ h2
              · exact h1 q (by omega)
          refine ⟨by omega, by omega, Sx.imp_intro fun hA => ⟨by rw [hv]; omega, ?_⟩, Sx.imp_intro fun hA => ?_⟩
          · rw [hr]
            refine into_mk [some 0, some 1] [(0, .ptr 0 0), (1, .ptr 1 0), (2, .int .i64 (N : Nat)), (3, .int .u64 (p : Nat)), (4, .bool (allP p (k + 1))), (12, .sl 1 0 0 1 N 64), (13, .int .i64 (N : Nat)), (14, .int .i64 (k + 1 : Nat))] [.cells true [.fam 64 1 fun _ => .int .u64 0], .cells true [.fam 64 1 fun i => .int .u64 (nat (if i < N then primeB i else 0))]] ?_ ?_ ?_ ?_ ?_ ?_ ?_ ?_
            · simp [slot, lkL, fixed, rg, renH, chEq, lookH, eqvL, eqv, eqvF, rnmL, rnm, liveN, Chunk.live, goodH, Chunk.good, okL, ok, sz, szL, storL, stor, renT, okT]
            · simp [slot, lkL, fixed, rg, renH, chEq, lookH, eqvL, eqv, eqvF, rnmL, rnm, liveN, Chunk.live, goodH, Chunk.good, okL, ok, sz, szL, storL, stor, renT, okT]
            · simp [slot, lkL, fixed, rg, renH, chEq, lookH, eqvL, eqv, eqvF, rnmL, rnm, liveN, Chunk.live, goodH, Chunk.good, okL, ok, sz, szL, storL, stor, renT, okT]
            · simp [slot, lkL, fixed, rg, renH, chEq, lookH, eqvL, eqv, eqvF, rnmL, rnm, liveN, Chunk.live, goodH, Chunk.good, okL, ok, sz, szL, storL, stor, renT, okT]
            · simp [slot, lkL, fixed, rg, renH, chEq, lookH, eqvL, eqv, eqvF, rnmL, rnm, liveN, Chunk.live, goodH, Chunk.good, okL, ok, sz, szL, storL, stor, renT, okT]
            · simp [slot, lkL, fixed, rg, renH, chEq, lookH, eqvL, eqv, eqvF, rnmL, rnm, liveN, Chunk.live, goodH, Chunk.good, okL, ok, sz, szL, storL, stor, renT, okT, hs, hA]
            · simp [slot, lkL, fixed, rg, renH, chEq, lookH, eqvL, eqv, eqvF, rnmL, rnm, liveN, Chunk.live, goodH, Chunk.good, okL, ok, sz, szL, storL, stor, renT, okT]
            · intro j
              exact ⟨m' - 1, by omega, k + 1, j, by omega, rfl⟩
          · refine into_mk [some 0, some 1] [(0, .ptr 0 0), (1, .ptr 1 0), (2, .int .i64 (N : Nat)), (3, .int .u64 (p : Nat)), (4, .bool (allP p (k + 1))), (12, .sl 1 0 0 1 N 64), (13, .int .i64 (N : Nat)), (14, .int .i64 (k + 1 : Nat))] [.cells true [.fam 64 1 fun _ => .int .u64 0], .cells true [.fam 64 1 fun i => .int .u64 (nat (if i < N then primeB i else 0))]] ?_ ?_ ?_ ?_ ?_ ?_ ?_ ?_
            · simp [slot, lkL, fixed, rg, renH, chEq, lookH, eqvL, eqv, eqvF, rnmL, rnm, liveN, Chunk.live, goodH, Chunk.good, okL, ok, sz, szL, storL, stor, renT, okT]
            · simp [slot, lkL, fixed, rg, renH, chEq, lookH, eqvL, eqv, eqvF, rnmL, rnm, liveN, Chunk.live, goodH, Chunk.good, okL, ok, sz, szL, storL, stor, renT, okT]
            · simp [slot, lkL, fixed, rg, renH, chEq, lookH, eqvL, eqv, eqvF, rnmL, rnm, liveN, Chunk.live, goodH, Chunk.good, okL, ok, sz, szL, storL, stor, renT, okT]
            · simp [slot, lkL, fixed, rg, renH, chEq, lookH, eqvL, eqv, eqvF, rnmL, rnm, liveN, Chunk.live, goodH, Chunk.good, okL, ok, sz, szL, storL, stor, renT, okT]
            · simp [slot, lkL, fixed, rg, renH, chEq, lookH, eqvL, eqv, eqvF, rnmL, rnm, liveN, Chunk.live, goodH, Chunk.good, okL, ok, sz, szL, storL, stor, renT, okT]
            · simp [slot, lkL, fixed, rg, renH, chEq, lookH, eqvL, eqv, eqvF, rnmL, rnm, liveN, Chunk.live, goodH, Chunk.good, okL, ok, sz, szL, storL, stor, renT, okT, hs, hA]
            · simp [slot, lkL, fixed, rg, renH, chEq, lookH, eqvL, eqv, eqvF, rnmL, rnm, liveN, Chunk.live, goodH, Chunk.good, okL, ok, sz, szL, storL, stor, renT, okT]
            · intro j
              exact ⟨m' - 1, by omega, k + 1, j, by omega, rfl⟩
        · have hkN : k = N := by have := of_decide_eq_false hc2; omega
          subst hkN
          refine ⟨Sx.imp_intro fun hA => ⟨by omega, hN64, ?_⟩, Sx.imp_intro fun hA => ?_⟩
          · obtain ⟨h1, h2⟩ := prime_yes p hp312 hp2 (hN ▸ hA)
            rw [← hN] at h1 h2
            refine into_mk [some 0, some 1] [(0, .ptr 0 0), (1, .ptr 1 0), (2, .int .i64 (cntP (p + 1) : Nat)), (3, .int .u64 (p + 1 : Nat))] [.cells true [.fam 64 1 fun _ => .int .u64 0], .cells true [.fam 64 1 fun i => .int .u64 (nat (if i < cntP (p + 1) then primeB i else 0))]] ?_ ?_ ?_ ?_ ?_ ?_ ?_ ?_
            · simp [slot, lkL, fixed, rg, renH, chEq, lookH, eqvL, eqv, eqvF, rnmL, rnm, liveN, Chunk.live, goodH, Chunk.good, okL, ok, sz, szL, storL, stor, renT, okT]
            · simp [slot, lkL, fixed, rg, renH, chEq, lookH, eqvL, eqv, eqvF, rnmL, rnm, liveN, Chunk.live, goodH, Chunk.good, okL, ok, sz, szL, storL, stor, renT, okT]
            · simp [slot, lkL, fixed, rg, renH, chEq, lookH, eqvL, eqv, eqvF, rnmL, rnm, liveN, Chunk.live, goodH, Chunk.good, okL, ok, sz, szL, storL, stor, renT, okT]
              intro i hi
              rw [h2]
              by_cases h : i = k
              · subst h
                have h3 : (p : Int) = nat (primeB i) := by simp only [nat]; omega
                simp [eqv, h3]
              · have e : (i < k + 1) = (i < k) := by simp only [eq_iff_iff]; omega
                simp only [h, if_false, e, eqv]
            · simp [slot, lkL, fixed, rg, renH, chEq, lookH, eqvL, eqv, eqvF, rnmL, rnm, liveN, Chunk.live, goodH, Chunk.good, okL, ok, sz, szL, storL, stor, renT, okT]
            · simp [slot, lkL, fixed, rg, renH, chEq, lookH, eqvL, eqv, eqvF, rnmL, rnm, liveN, Chunk.live, goodH, Chunk.good, okL, ok, sz, szL, storL, stor, renT, okT]
            · simp [slot, lkL, fixed, rg, renH, chEq, lookH, eqvL, eqv, eqvF, rnmL, rnm, liveN, Chunk.live, goodH, Chunk.good, okL, ok, sz, szL, storL, stor, renT, okT, h2]
            · simp [slot, lkL, fixed, rg, renH, chEq, lookH, eqvL, eqv, eqvF, rnmL, rnm, liveN, Chunk.live, goodH, Chunk.good, okL, ok, sz, szL, storL, stor, renT, okT]
            · intro j
              exact ⟨m - 1, by omega, p + 1, j, by omega, by omega, rfl⟩
          · have h2 := prime_no p hp312 hp2 (hN ▸ hA)
            rw [← hN] at h2
            refine into_mk [some 0, some 1] [(0, .ptr 0 0), (1, .ptr 1 0), (2, .int .i64 (cntP (p + 1) : Nat)), (3, .int .u64 (p + 1 : Nat))] [.cells true [.fam 64 1 fun _ => .int .u64 0], .cells true [.fam 64 1 fun i => .int .u64 (nat (if i < cntP (p + 1) then primeB i else 0))]] ?_ ?_ ?_ ?_ ?_ ?_ ?_ ?_
            · simp [slot, lkL, fixed, rg, renH, chEq, lookH, eqvL, eqv, eqvF, rnmL, rnm, liveN, Chunk.live, goodH, Chunk.good, okL, ok, sz, szL, storL, stor, renT, okT]
            · simp [slot, lkL, fixed, rg, renH, chEq, lookH, eqvL, eqv, eqvF, rnmL, rnm, liveN, Chunk.live, goodH, Chunk.good, okL, ok, sz, szL, storL, stor, renT, okT]
            · simp [slot, lkL, fixed, rg, renH, chEq, lookH, eqvL, eqv, eqvF, rnmL, rnm, liveN, Chunk.live, goodH, Chunk.good, okL, ok, sz, szL, storL, stor, renT, okT, h2]
            · simp [slot, lkL, fixed, rg, renH, chEq, lookH, eqvL, eqv, eqvF, rnmL, rnm, liveN, Chunk.live, goodH, Chunk.good, okL, ok, sz, szL, storL, stor, renT, okT]
            · simp [slot, lkL, fixed, rg, renH, chEq, lookH, eqvL, eqv, eqvF, rnmL, rnm, liveN, Chunk.live, goodH, Chunk.good, okL, ok, sz, szL, storL, stor, renT, okT]
            · simp [slot, lkL, fixed, rg, renH, chEq, lookH, eqvL, eqv, eqvF, rnmL, rnm, liveN, Chunk.live, goodH, Chunk.good, okL, ok, sz, szL, storL, stor, renT, okT, h2]
            · simp [slot, lkL, fixed, rg, renH, chEq, lookH, eqvL, eqv, eqvF, rnmL, rnm, liveN, Chunk.live, goodH, Chunk.good, okL, ok, sz, szL, storL, stor, renT, okT]
            · intro j
              exact ⟨m - 1, by omega, p + 1, j, by omega, by omega, rfl⟩
    · have hN64 : N = 64 := by
        have h1 := of_decide_eq_false hc
        rcases Nat.lt_or_ge p 312 with h | h
        · have := prime_more p h
          omega
        · have h2 : p = 312 := by omega
          rw [hN, h2, prime_end]
      subst hN64
      refine intoR_mk [] (.fam 64 1 fun i => .int .u64 (nat (primeB i))) [] ?_ ?_ ?_ ?_ ?_ ?_ ?_ hK
      · simp [slot, lkL, fixed, rg, renH, chEq, lookH, eqvL, eqv, eqvF, rnmL, rnm, liveN, Chunk.live, goodH, Chunk.good, okL, ok, sz, szL, storL, stor, renT, okT]
      · simp [slot, lkL, fixed, rg, renH, chEq, lookH, eqvL, eqv, eqvF, rnmL, rnm, liveN, Chunk.live, goodH, Chunk.good, okL, ok, sz, szL, storL, stor, renT, okT]
      · simp [slot, lkL, fixed, rg, renH, chEq, lookH, eqvL, eqv, eqvF, rnmL, rnm, liveN, Chunk.live, goodH, Chunk.good, okL, ok, sz, szL, storL, stor, renT, okT]
      · simp [slot, lkL, fixed, rg, renH, chEq, lookH, eqvL, eqv, eqvF, rnmL, rnm, liveN, Chunk.live, goodH, Chunk.good, okL, ok, sz, szL, storL, stor, renT, okT]
      · simp [slot, lkL, fixed, rg, renH, chEq, lookH, eqvL, eqv, eqvF, rnmL, rnm, liveN, Chunk.live, goodH, Chunk.good, okL, ok, sz, szL, storL, stor, renT, okT]
      · simp [slot, lkL, fixed, rg, renH, chEq, lookH, eqvL, eqv, eqvF, rnmL, rnm, liveN, Chunk.live, goodH, Chunk.good, okL, ok, sz, szL, storL, stor, renT, okT]
        intro i hi
        simp [hi]
      · simp [slot, lkL, fixed, rg, renH, chEq, lookH, eqvL, eqv, eqvF, rnmL, rnm, liveN, Chunk.live, goodH, Chunk.good, okL, ok, sz, szL, storL, stor, renT, okT]
theorem c55 {h : List Chunk} (K : Tok → SV → List Chunk → Prop) (hK : K .mk (.fam 64 1 fun i => .int .u64 (nat (primeB i))) h) : callP Try.prog 55 [] h K := by
  refine callP_frame (argsL := []) (KL := fun _ v h' => v = .fam 64 1 (fun i => .int .u64 (nat (primeB i))) ∧ h' = []) [] (c55l _ ⟨rfl, rfl⟩) List.nodup_nil trivial trivial (by simp [slot, lkL, fixed, rg, renH, chEq, lookH, eqvL, eqv, eqvF, rnmL, rnm, liveN, Chunk.live, goodH, Chunk.good, okL, ok, sz, szL, storL, stor, renT, okT, has, upG, up, nth, roOk, keepsLive, Chunk.wr, lay, rnmC, putH]) rfl ?_
  rintro v h' ⟨rfl, rfl⟩
  refine ⟨by simp [slot, lkL, fixed, rg, renH, chEq, lookH, eqvL, eqv, eqvF, rnmL, rnm, liveN, Chunk.live, goodH, Chunk.good, okL, ok, sz, szL, storL, stor, renT, okT, has, upG, up, nth, roOk, keepsLive, Chunk.wr, lay, rnmC, putH], trivial, ?_⟩
  simpa [rnm, lay] using hK
end Go.Proofs.Ytbjelfgclhmedaa
