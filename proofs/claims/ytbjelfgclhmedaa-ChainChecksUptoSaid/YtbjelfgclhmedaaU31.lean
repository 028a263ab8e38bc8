/- Contracts of functions that the laws reach, by the symbolic executor of the texts Sxa to Sxt. No condition. -/
import Derived.Test.YtbjelfgclhmedaaU30
import Derived.Test.YtbjelfgclhmedaaPc
set_option linter.all false
set_option maxRecDepth 40000
namespace Go.Proofs.Ytbjelfgclhmedaa
open Go Go.Sx

theorem res36 : Try.f36.results.toList = [.tmp 2] := rfl
theorem sv_good {n : Nat} {V : Nat → Value} {L : Nat → Nat} (hV : ∀ i, i < n → ∃ a c, V i = .slice a (L i) c) (i : Nat) (hi : i < n) : (V i).cells.size = 1 ∧ (V i).oneCell' = true := by
  obtain ⟨a, c, h⟩ := hV i hi
  rw [h]
  exact ⟨rfl, rfl⟩

set_option maxHeartbeats 4000000 in
/-- The first rows, as far as they are short. -/
theorem c36l (n : Nat) (V : Nat → Value) (L : Nat → Nat) (hn : n ≤ 9223372036854775807) (hV : ∀ i, i < n → ∃ a c, V i = .slice a (L i) c) (K : Tok → SV → List Chunk → Prop)
    (hK : ∀ (m : Nat) (sel : Nat → Nat), m ≤ 40 → (∀ i, i < m → sel i < n ∧ L (sel i) ≤ 200) → K .mk (.osl 1 0 0 1 m) [.row false n 1 (fun i => .v (V i)), .row true m 1 fun i => .v (V (sel i))]) :
    callP Try.prog 36 [.osl 0 0 0 1 n] [.row false n 1 fun i => .v (V i)] K := by
  refine callP_of_code tabOk Try.func36 (by kernel_rfl) rfl (Nat.le_of_ble_eq_true rfl) (codeP_of_vc (pl := np) tabOk follows_mixed (by kernel_rfl) ?_)
  rw [Try.ntmps36]
  simp -implicitDefEqProofs (maxSteps := 1000000) (disch := omega) only [↓vcB, ↓gd, ↓opP, ↓qv, ↓ef, ↓bslS, ↓stS, ↓mkS, ↓mupS, ↓appS, ↓s2bS, ↓resS, evB, Sx.look, slot, ↓lkL, putS, putO, argsL, ↓reduceIte, ofV, of1, lookH, putH, List.length_cons, List.length_nil, List.length_append, List.replicate, List.append, List.cons_append, List.nil_append, List.append_assoc, List.map_cons, List.map_nil, convS, fldA, nthT, idxA, idxS, fldS, oslN, bnd, slS, unS, valI, lenS, lookS, takeC, psB, asRow, csB, Int.toNat_natCast, Int.le_refl, and_self, rdF, Ent.row, ldS, sz, szL, wrF, bldF, plT, bldS, srcS, nilS, nilEq, binS2, structS, eqL, eqF, binS, arrS, isI, tupS, stor, storL, Value.oneCell', minS, maxS, capS, true_and, and_true, Nat.reduceAdd, Nat.reduceSub, Nat.reduceMul, Nat.reduceLT, Nat.reduceLeDiff, Nat.reduceEqDiff, Nat.reduceBEq, Int.reduceToNat, Int.reduceNeg, Nat.zero_add, Nat.add_zero, Nat.sub_self, Nat.sub_zero, Nat.zero_mul, Nat.mul_one, Nat.zero_le, if_true, if_false, reduceIte, stays, inL, same1, qn, ldN, convN, lenN, List.mem_cons, List.not_mem_nil, Option.map_some, Option.map_none, cond_true, cond_false, Sx.imp_true, Sx.imp_false, implies_true, Int.reduceEq, Int.reduceNe, Int.reduceLE, Int.reduceLT, decide_true, decide_false, List.zipIdx_cons, List.zipIdx_nil, or_false, false_or, forall_eq_or_imp, forall_eq, ne_eq, reduceCtorEq, not_false_eq_true, Bool.false_eq_true, Bool.true_eq_false, Bool.not_true, Bool.not_false, notInt, numB, tabB, Array.reduceGetElem?, upG, up, nth, lay, rcB, rnm, rnmL, wrB, pcB, hsB, res36]
  refine codeP_loop (pl := np) tabOk follows_mixed (by kernel_rfl) (fun m' s => ∃ (k m : Nat) (sel : Nat → Nat) (j : Nat → Value), k + m' = n ∧ m ≤ k ∧ m ≤ 40 ∧ (∀ i, i < m → sel i < n ∧ L (sel i) ≤ 200) ∧ s = ⟨⟨26, [(3, .osl 1 0 0 1 m), (6, .osl 0 0 0 1 n), (7, .int .i64 (n : Nat)), (8, .int .i64 (k : Nat))], j⟩, [.row false n 1 (fun i => .v (V i)), .row true m 1 fun i => .v (V (sel i))], []⟩) ?_ ?_
  · refine into_mk [some 0, none] [(3, .osl 1 0 0 1 0), (6, .osl 0 0 0 1 n), (7, .int .i64 (n : Nat)), (8, .int .i64 (0 : Nat))] [.row false n 1 (fun i => .v (V i)), .row true 0 1 fun i => .v (V 0)] ?_ ?_ ?_ ?_ ?_ ?_ ?_ ?_
    · simp [slot, lkL, fixed, rg, renH, chEq, lookH, eqvL, eqv, eqvF, rnmL, rnm, liveN, Chunk.live, goodH, Chunk.good, okL, ok, sz, szL, storL, stor, renT, okT]
    · simp [slot, lkL, fixed, rg, renH, chEq, lookH, eqvL, eqv, eqvF, rnmL, rnm, liveN, Chunk.live, goodH, Chunk.good, okL, ok, sz, szL, storL, stor, renT, okT]
    · simp [slot, lkL, fixed, rg, renH, chEq, lookH, eqvL, eqv, eqvF, rnmL, rnm, liveN, Chunk.live, goodH, Chunk.good, okL, ok, sz, szL, storL, stor, renT, okT]
    · simp [slot, lkL, fixed, rg, renH, chEq, lookH, eqvL, eqv, eqvF, rnmL, rnm, liveN, Chunk.live, goodH, Chunk.good, okL, ok, sz, szL, storL, stor, renT, okT]
    · simp [slot, lkL, fixed, rg, renH, chEq, lookH, eqvL, eqv, eqvF, rnmL, rnm, liveN, Chunk.live, goodH, Chunk.good, okL, ok, sz, szL, storL, stor, renT, okT]
      exact ⟨fun i hi => (sv_good hV i hi).1, fun i hi => (sv_good hV i hi).2⟩
    · simp [slot, lkL, fixed, rg, renH, chEq, lookH, eqvL, eqv, eqvF, rnmL, rnm, liveN, Chunk.live, goodH, Chunk.good, okL, ok, sz, szL, storL, stor, renT, okT]
    · simp [slot, lkL, fixed, rg, renH, chEq, lookH, eqvL, eqv, eqvF, rnmL, rnm, liveN, Chunk.live, goodH, Chunk.good, okL, ok, sz, szL, storL, stor, renT, okT]
    · intro j
      exact ⟨n, 0, 0, fun _ => 0, j, by omega, by omega, by omega, fun i hi => absurd hi (by omega), rfl⟩
  · rintro m' s ⟨k, m, sel, j, hk, hmk, hm40, hsel, rfl⟩
    have a0 : k < n → IntKind.i64.wrap ((k : Int) + 1) = ((k + 1 : Nat) : Int) := fun h => by rw [wrap64 (by omega) (by omega)]; omega
    by_cases hkn : k < n
    · obtain ⟨a, c, hv⟩ := hV k hkn
      have g0 : decide ((k : Int) < n) = true := by simpa using hkn
      have a1 := a0 hkn
      simp -implicitDefEqProofs (maxSteps := 1000000) (disch := omega) only [↓vcB, ↓gd, ↓opP, ↓qv, ↓ef, ↓bslS, ↓stS, ↓mkS, ↓mupS, ↓appS, ↓s2bS, ↓resS, evB, Sx.look, slot, ↓lkL, putS, putO, argsL, ↓reduceIte, ofV, of1, lookH, putH, List.length_cons, List.length_nil, List.length_append, List.replicate, List.append, List.cons_append, List.nil_append, List.append_assoc, List.map_cons, List.map_nil, convS, fldA, nthT, idxA, idxS, fldS, oslN, bnd, slS, unS, valI, lenS, lookS, takeC, psB, asRow, csB, Int.toNat_natCast, Int.le_refl, and_self, rdF, Ent.row, ldS, sz, szL, wrF, bldF, plT, bldS, srcS, nilS, nilEq, binS2, structS, eqL, eqF, binS, arrS, isI, tupS, stor, storL, Value.oneCell', minS, maxS, capS, true_and, and_true, Nat.reduceAdd, Nat.reduceSub, Nat.reduceMul, Nat.reduceLT, Nat.reduceLeDiff, Nat.reduceEqDiff, Nat.reduceBEq, Int.reduceToNat, Int.reduceNeg, Nat.zero_add, Nat.add_zero, Nat.sub_self, Nat.sub_zero, Nat.zero_mul, Nat.mul_one, Nat.zero_le, if_true, if_false, reduceIte, stays, inL, same1, qn, ldN, convN, lenN, List.mem_cons, List.not_mem_nil, Option.map_some, Option.map_none, cond_true, cond_false, Sx.imp_true, Sx.imp_false, implies_true, Int.reduceEq, Int.reduceNe, Int.reduceLE, Int.reduceLT, decide_true, decide_false, List.zipIdx_cons, List.zipIdx_nil, or_false, false_or, forall_eq_or_imp, forall_eq, ne_eq, reduceCtorEq, not_false_eq_true, Bool.false_eq_true, Bool.true_eq_false, Bool.not_true, Bool.not_false, notInt, numB, tabB, Array.reduceGetElem?, upG, up, nth, lay, rcB, rnm, rnmL, wrB, pcB, hsB, res36, g0, a1, hv]
      refine ⟨⟨by omega, by omega, by omega⟩, hkn, Sx.imp_intro fun h40 => ⟨Sx.imp_intro fun h200 => ?_, Sx.imp_intro fun h200 => ?_⟩, Sx.imp_intro fun h40 => ?_⟩
      · have hk40 : k < 40 := by have := of_decide_eq_true h40; omega
        have hl : L k ≤ 200 := by have := of_decide_eq_true h200; omega
        refine ⟨rfl, ⟨by omega, by omega⟩, ?_⟩
        rw [← hv]
        have hsel' : ∀ i, i < m + 1 → (if i < m then sel i else k) < n ∧ L (if i < m then sel i else k) ≤ 200 := fun i hi => by
          split
          · rename_i h; exact hsel i h
          · exact ⟨hkn, hl⟩
        refine into_mk [some 0, some 3] [(3, .osl 1 0 0 1 (m + 1)), (6, .osl 0 0 0 1 n), (7, .int .i64 (n : Nat)), (8, .int .i64 (k + 1 : Nat))] [.row false n 1 (fun i => .v (V i)), .row true (m + 1) 1 fun i => .v (V (if i < m then sel i else k))] ?_ ?_ ?_ ?_ ?_ ?_ ?_ ?_
        · simp [slot, lkL, fixed, rg, renH, chEq, lookH, eqvL, eqv, eqvF, rnmL, rnm, liveN, Chunk.live, goodH, Chunk.good, okL, ok, sz, szL, storL, stor, renT, okT]
        · simp [slot, lkL, fixed, rg, renH, chEq, lookH, eqvL, eqv, eqvF, rnmL, rnm, liveN, Chunk.live, goodH, Chunk.good, okL, ok, sz, szL, storL, stor, renT, okT]
        · simp [slot, lkL, fixed, rg, renH, chEq, lookH, eqvL, eqv, eqvF, rnmL, rnm, liveN, Chunk.live, goodH, Chunk.good, okL, ok, sz, szL, storL, stor, renT, okT]
          intro i hi
          by_cases h : i < m
          · simp [h, eqv]
          · have h2 : i = m := by omega
            subst h2
            simp [eqv, Sx.look]
        · simp [slot, lkL, fixed, rg, renH, chEq, lookH, eqvL, eqv, eqvF, rnmL, rnm, liveN, Chunk.live, goodH, Chunk.good, okL, ok, sz, szL, storL, stor, renT, okT]
        · simp [slot, lkL, fixed, rg, renH, chEq, lookH, eqvL, eqv, eqvF, rnmL, rnm, liveN, Chunk.live, goodH, Chunk.good, okL, ok, sz, szL, storL, stor, renT, okT]
          exact ⟨⟨fun i hi => (sv_good hV i hi).1, fun i hi => (sv_good hV i hi).2⟩, fun i hi => (sv_good hV _ (hsel' i hi).1).1, fun i hi => (sv_good hV _ (hsel' i hi).1).2⟩
        · simp [slot, lkL, fixed, rg, renH, chEq, lookH, eqvL, eqv, eqvF, rnmL, rnm, liveN, Chunk.live, goodH, Chunk.good, okL, ok, sz, szL, storL, stor, renT, okT]
        · simp [slot, lkL, fixed, rg, renH, chEq, lookH, eqvL, eqv, eqvF, rnmL, rnm, liveN, Chunk.live, goodH, Chunk.good, okL, ok, sz, szL, storL, stor, renT, okT]
        · intro j
          exact ⟨m' - 1, by omega, k + 1, m + 1, fun i => if i < m then sel i else k, j, by omega, by omega, by omega, hsel', rfl⟩
      · refine into_mk [some 0, some 1] [(3, .osl 1 0 0 1 m), (6, .osl 0 0 0 1 n), (7, .int .i64 (n : Nat)), (8, .int .i64 (k + 1 : Nat))] [.row false n 1 (fun i => .v (V i)), .row true m 1 fun i => .v (V (sel i))] ?_ ?_ ?_ ?_ ?_ ?_ ?_ ?_
        · simp [slot, lkL, fixed, rg, renH, chEq, lookH, eqvL, eqv, eqvF, rnmL, rnm, liveN, Chunk.live, goodH, Chunk.good, okL, ok, sz, szL, storL, stor, renT, okT]
        · simp [slot, lkL, fixed, rg, renH, chEq, lookH, eqvL, eqv, eqvF, rnmL, rnm, liveN, Chunk.live, goodH, Chunk.good, okL, ok, sz, szL, storL, stor, renT, okT]
        · simp [slot, lkL, fixed, rg, renH, chEq, lookH, eqvL, eqv, eqvF, rnmL, rnm, liveN, Chunk.live, goodH, Chunk.good, okL, ok, sz, szL, storL, stor, renT, okT]
        · simp [slot, lkL, fixed, rg, renH, chEq, lookH, eqvL, eqv, eqvF, rnmL, rnm, liveN, Chunk.live, goodH, Chunk.good, okL, ok, sz, szL, storL, stor, renT, okT]
        · simp [slot, lkL, fixed, rg, renH, chEq, lookH, eqvL, eqv, eqvF, rnmL, rnm, liveN, Chunk.live, goodH, Chunk.good, okL, ok, sz, szL, storL, stor, renT, okT]
          exact ⟨⟨fun i hi => (sv_good hV i hi).1, fun i hi => (sv_good hV i hi).2⟩, fun i hi => (sv_good hV _ (hsel i hi).1).1, fun i hi => (sv_good hV _ (hsel i hi).1).2⟩
        · simp [slot, lkL, fixed, rg, renH, chEq, lookH, eqvL, eqv, eqvF, rnmL, rnm, liveN, Chunk.live, goodH, Chunk.good, okL, ok, sz, szL, storL, stor, renT, okT]
        · simp [slot, lkL, fixed, rg, renH, chEq, lookH, eqvL, eqv, eqvF, rnmL, rnm, liveN, Chunk.live, goodH, Chunk.good, okL, ok, sz, szL, storL, stor, renT, okT]
        · intro j
          exact ⟨m' - 1, by omega, k + 1, m, sel, j, by omega, by omega, by omega, hsel, rfl⟩
      · refine into_mk [some 0, some 1] [(3, .osl 1 0 0 1 m), (6, .osl 0 0 0 1 n), (7, .int .i64 (n : Nat)), (8, .int .i64 (k + 1 : Nat))] [.row false n 1 (fun i => .v (V i)), .row true m 1 fun i => .v (V (sel i))] ?_ ?_ ?_ ?_ ?_ ?_ ?_ ?_
        · simp [slot, lkL, fixed, rg, renH, chEq, lookH, eqvL, eqv, eqvF, rnmL, rnm, liveN, Chunk.live, goodH, Chunk.good, okL, ok, sz, szL, storL, stor, renT, okT]
        · simp [slot, lkL, fixed, rg, renH, chEq, lookH, eqvL, eqv, eqvF, rnmL, rnm, liveN, Chunk.live, goodH, Chunk.good, okL, ok, sz, szL, storL, stor, renT, okT]
        · simp [slot, lkL, fixed, rg, renH, chEq, lookH, eqvL, eqv, eqvF, rnmL, rnm, liveN, Chunk.live, goodH, Chunk.good, okL, ok, sz, szL, storL, stor, renT, okT]
        · simp [slot, lkL, fixed, rg, renH, chEq, lookH, eqvL, eqv, eqvF, rnmL, rnm, liveN, Chunk.live, goodH, Chunk.good, okL, ok, sz, szL, storL, stor, renT, okT]
        · simp [slot, lkL, fixed, rg, renH, chEq, lookH, eqvL, eqv, eqvF, rnmL, rnm, liveN, Chunk.live, goodH, Chunk.good, okL, ok, sz, szL, storL, stor, renT, okT]
          exact ⟨⟨fun i hi => (sv_good hV i hi).1, fun i hi => (sv_good hV i hi).2⟩, fun i hi => (sv_good hV _ (hsel i hi).1).1, fun i hi => (sv_good hV _ (hsel i hi).1).2⟩
        · simp [slot, lkL, fixed, rg, renH, chEq, lookH, eqvL, eqv, eqvF, rnmL, rnm, liveN, Chunk.live, goodH, Chunk.good, okL, ok, sz, szL, storL, stor, renT, okT]
        · simp [slot, lkL, fixed, rg, renH, chEq, lookH, eqvL, eqv, eqvF, rnmL, rnm, liveN, Chunk.live, goodH, Chunk.good, okL, ok, sz, szL, storL, stor, renT, okT]
        · intro j
          exact ⟨m' - 1, by omega, k + 1, m, sel, j, by omega, by omega, by omega, hsel, rfl⟩
    · have g0 : decide ((k : Int) < n) = false := by simpa using hkn
      simp -implicitDefEqProofs (maxSteps := 1000000) (disch := omega) only [↓vcB, ↓gd, ↓opP, ↓qv, ↓ef, ↓bslS, ↓stS, ↓mkS, ↓mupS, ↓appS, ↓s2bS, ↓resS, evB, Sx.look, slot, ↓lkL, putS, putO, argsL, ↓reduceIte, ofV, of1, lookH, putH, List.length_cons, List.length_nil, List.length_append, List.replicate, List.append, List.cons_append, List.nil_append, List.append_assoc, List.map_cons, List.map_nil, convS, fldA, nthT, idxA, idxS, fldS, oslN, bnd, slS, unS, valI, lenS, lookS, takeC, psB, asRow, csB, Int.toNat_natCast, Int.le_refl, and_self, rdF, Ent.row, ldS, sz, szL, wrF, bldF, plT, bldS, srcS, nilS, nilEq, binS2, structS, eqL, eqF, binS, arrS, isI, tupS, stor, storL, Value.oneCell', minS, maxS, capS, true_and, and_true, Nat.reduceAdd, Nat.reduceSub, Nat.reduceMul, Nat.reduceLT, Nat.reduceLeDiff, Nat.reduceEqDiff, Nat.reduceBEq, Int.reduceToNat, Int.reduceNeg, Nat.zero_add, Nat.add_zero, Nat.sub_self, Nat.sub_zero, Nat.zero_mul, Nat.mul_one, Nat.zero_le, if_true, if_false, reduceIte, stays, inL, same1, qn, ldN, convN, lenN, List.mem_cons, List.not_mem_nil, Option.map_some, Option.map_none, cond_true, cond_false, Sx.imp_true, Sx.imp_false, implies_true, Int.reduceEq, Int.reduceNe, Int.reduceLE, Int.reduceLT, decide_true, decide_false, List.zipIdx_cons, List.zipIdx_nil, or_false, false_or, forall_eq_or_imp, forall_eq, ne_eq, reduceCtorEq, not_false_eq_true, Bool.false_eq_true, Bool.true_eq_false, Bool.not_true, Bool.not_false, notInt, numB, tabB, Array.reduceGetElem?, upG, up, nth, lay, rcB, rnm, rnmL, wrB, pcB, hsB, res36, g0]
      refine intoR_mk [some 0, some 1] (.osl 1 0 0 1 m) [.row false n 1 (fun i => .v (V i)), .row true m 1 fun i => .v (V (sel i))] ?_ ?_ ?_ ?_ ?_ ?_ ?_ (hK m sel hm40 hsel)
      · simp [slot, lkL, fixed, rg, renH, chEq, lookH, eqvL, eqv, eqvF, rnmL, rnm, liveN, Chunk.live, goodH, Chunk.good, okL, ok, sz, szL, storL, stor, renT, okT]
      · simp [slot, lkL, fixed, rg, renH, chEq, lookH, eqvL, eqv, eqvF, rnmL, rnm, liveN, Chunk.live, goodH, Chunk.good, okL, ok, sz, szL, storL, stor, renT, okT]
      · simp [slot, lkL, fixed, rg, renH, chEq, lookH, eqvL, eqv, eqvF, rnmL, rnm, liveN, Chunk.live, goodH, Chunk.good, okL, ok, sz, szL, storL, stor, renT, okT]
      · simp [slot, lkL, fixed, rg, renH, chEq, lookH, eqvL, eqv, eqvF, rnmL, rnm, liveN, Chunk.live, goodH, Chunk.good, okL, ok, sz, szL, storL, stor, renT, okT]
      · simp [slot, lkL, fixed, rg, renH, chEq, lookH, eqvL, eqv, eqvF, rnmL, rnm, liveN, Chunk.live, goodH, Chunk.good, okL, ok, sz, szL, storL, stor, renT, okT]
        exact ⟨⟨fun i hi => (sv_good hV i hi).1, fun i hi => (sv_good hV i hi).2⟩, fun i hi => (sv_good hV _ (hsel i hi).1).1, fun i hi => (sv_good hV _ (hsel i hi).1).2⟩
      · simp [slot, lkL, fixed, rg, renH, chEq, lookH, eqvL, eqv, eqvF, rnmL, rnm, liveN, Chunk.live, goodH, Chunk.good, okL, ok, sz, szL, storL, stor, renT, okT]
      · simp [slot, lkL, fixed, rg, renH, chEq, lookH, eqvL, eqv, eqvF, rnmL, rnm, liveN, Chunk.live, goodH, Chunk.good, okL, ok, sz, szL, storL, stor, renT, okT]
end Go.Proofs.Ytbjelfgclhmedaa
