/- Contracts of functions that the laws reach, by the symbolic executor of the texts Sxa to Sxt. No condition. -/
import Derived.Test.YtbjelfgclhmedaaU30
import Derived.Test.YtbjelfgclhmedaaPk
set_option linter.all false
set_option maxRecDepth 40000
namespace Go.Proofs.Ytbjelfgclhmedaa
open Go Go.Sx

theorem res36 : Try.f36.results.toList = [.tmp 2] := rfl
theorem sv_good {n : Nat} {V : Nat → Value} {L : Nat → Nat} (hV : ∀ i, i < n → ∃ a c, V i = .slice a (L i) c) (i : Nat) (hi : i < n) : (V i).cells.size = 1 ∧ (V i).oneCell' = true := by
  obtain ⟨a, c, h⟩ := hV i hi
  rw [h]
  exact ⟨rfl, rfl⟩

set_option maxHeartbeats 4000000 in
/-- The first rows, as far as they are short. -/
theorem c36l (n : Nat) (V : Nat → Value) (L : Nat → Nat) (hn : n ≤ 9223372036854775807) (hV : ∀ i, i < n → ∃ a c, V i = .slice a (L i) c) (K : Tok → SV → List Chunk → Prop)
    (hK : ∀ (m : Nat) (sel : Nat → Nat), m ≤ 40 → (∀ i, i < m → sel i < n ∧ L (sel i) ≤ 200) → K .mk (.osl 1 0 0 1 m) [.row false n 1 (fun i => .v (V i)), .row true m 1 fun i => .v (V (sel i))]) :
    callP Try.prog 36 [.osl 0 0 0 1 n] [.row false n 1 fun i => .v (V i)] K := by
  refine callP_of_code tabOk Try.func36 (by kernel_rfl) rfl (Nat.le_of_ble_eq_true rfl) (codeP_of_vc (pl := np) tabOk follows_mixed (by kernel_rfl) ?_)
  rw [Try.ntmps36]
  simp -implicitDefEqProofs (maxSteps := 1000000) (disch := omega) only [↓vc_skip, ↓vc_label, ↓vc_plain, ↓vc_drawn, ↓vc_seq, ↓vc_cond, ↓vc_block, ↓vc_exit, ↓vc_ret, ↓vc_loop, ↓vc_range, ↓rn_nil, ↓rn_cons, ↓rp_nil, ↓rp_q, ↓rp_e1, ↓rp_e2, ↓Sx.rounds_zero, ↓Sx.rounds_succ, ↓gd, ↓opP, ↓qv, ↓ef, ↓bslS, ↓stS, ↓mkS, ↓appS, ↓s2bS, ↓resS, ev_tmp, ev_const, ev_global, ev_func, Sx.look, slot, ↓lkL, putS, putO, argsL, ↓reduceIte, ofV, of1, lookH, putH, List.length_cons, List.length_nil, List.length_append, List.replicate, List.append, List.cons_append, List.nil_append, List.append_assoc, List.map_cons, List.map_nil, convS, fldA, nthT, idxA, idxS, fldS, oslN, bnd, slS, unS, valI, lenS, takeC, parts_agg, parts_v, parts_int, parts_bool, parts_str, parts_ptr, parts_pix, parts_sl, parts_osl, parts_fam, parts_tup, parts_fn, parts_mp, Pc.parts_sv, asRow, single_agg, single_v, single_int, single_bool, single_str, single_ptr, single_pix, single_sl, single_osl, single_fam, single_tup, single_fn, single_mp, Pc.single_sv, cst0, cst1, cst2, cst32, Int.toNat_natCast, Int.le_refl, and_self, inc0, inc1, rdF, Ent.row, ldS, sz, szL, wrF, bldF, plT, bldS, srcS, nilS, nilEq, binS2, structS, eqL, eqF, binS, arrS, isI, tupS, stor, storL, Value.oneCell', minS, maxS, capS, true_and, and_true, Nat.reduceAdd, Nat.reduceSub, Nat.reduceMul, Nat.reduceLT, Nat.reduceLeDiff, Nat.reduceEqDiff, Nat.reduceBEq, Int.reduceToNat, Int.reduceNeg, Nat.zero_add, Nat.add_zero, Nat.sub_self, Nat.sub_zero, Nat.zero_mul, Nat.mul_one, Nat.zero_le, if_true, if_false, reduceIte, stays, inL, same1, qn, ldN, convN, lenN, List.mem_cons, List.not_mem_nil, Option.map_some, Option.map_none, cond_true, cond_false, Sx.imp_true, Sx.imp_false, implies_true, Int.reduceEq, Int.reduceNe, Int.reduceLE, Int.reduceLT, decide_true, decide_false, List.zipIdx_cons, List.zipIdx_nil, or_false, false_or, forall_eq_or_imp, forall_eq, ne_eq, reduceCtorEq, not_false_eq_true, Bool.false_eq_true, Bool.true_eq_false, Bool.not_true, Bool.not_false, notInt, add32, sub32, add8, sub8, add64, mul64, and32, or32, xor32, and8, or8, and64, or64, not32, not32', c8_32, c8_64, c32_8, c64_8, c64_32, c32_64, shli8, shli32, shli64, shri8, shri32, shri64, tab2, tab3, tab4, tab5, tab9, tab22, tab23, tab25, tab29, tab37, tab40, tab48, tab49, tab51, tab53, tab57, tab64, tab65, tab75, tab76, tab77, tab80, tab81, tab82, tab83, tab87, tab89, tab91, tab99, Array.reduceGetElem?, upG, up, nth, lay, rnmC_0, rnmC_1, rnmC_2, rnmC_3, rnm, rnmL, wr_0, wr_1, wr_2, wr_3, Pc.rnm_sv, Pc.svO_some, Pc.sz_sv, Pc.stor_sv, Pc.ok_sv, Pc.chEq_ch, Pc.good_ch, Pc.rnmC_ch, Pc.wr_ch, Pc.live_ch, rnmC_HS, rnmC_HB, HSO_some, chEq_HS, chEq_HB, wr_HS, wr_HB, live_HS, live_HB, good_HS, good_HB, res36]
  refine codeP_loop (pl := np) tabOk follows_mixed (by kernel_rfl) (fun m' s => ∃ (k m : Nat) (sel : Nat → Nat) (j : Nat → Value), k + m' = n ∧ m ≤ k ∧ m ≤ 40 ∧ (∀ i, i < m → sel i < n ∧ L (sel i) ≤ 200) ∧ s = ⟨⟨26, [(3, .osl 1 0 0 1 m), (6, .osl 0 0 0 1 n), (7, .int .i64 (n : Nat)), (8, .int .i64 (k : Nat))], j⟩, [.row false n 1 (fun i => .v (V i)), .row true m 1 fun i => .v (V (sel i))], []⟩) ?_ ?_
  · refine into_mk [some 0, none] [(3, .osl 1 0 0 1 0), (6, .osl 0 0 0 1 n), (7, .int .i64 (n : Nat)), (8, .int .i64 (0 : Nat))] [.row false n 1 (fun i => .v (V i)), .row true 0 1 fun i => .v (V 0)] ?_ ?_ ?_ ?_ ?_ ?_ ?_ ?_
    · simp [slot, lkL, fixed, rg, renH, chEq, lookH, eqvL, eqv, eqvF, rnmL, rnm, liveN, Chunk.live, goodH, Chunk.good, okL, ok, sz, szL, storL, stor, renT, okT]
    · simp [slot, lkL, fixed, rg, renH, chEq, lookH, eqvL, eqv, eqvF, rnmL, rnm, liveN, Chunk.live, goodH, Chunk.good, okL, ok, sz, szL, storL, stor, renT, okT]
    · simp [slot, lkL, fixed, rg, renH, chEq, lookH, eqvL, eqv, eqvF, rnmL, rnm, liveN, Chunk.live, goodH, Chunk.good, okL, ok, sz, szL, storL, stor, renT, okT]
    · simp [slot, lkL, fixed, rg, renH, chEq, lookH, eqvL, eqv, eqvF, rnmL, rnm, liveN, Chunk.live, goodH, Chunk.good, okL, ok, sz, szL, storL, stor, renT, okT]
    · simp [slot, lkL, fixed, rg, renH, chEq, lookH, eqvL, eqv, eqvF, rnmL, rnm, liveN, Chunk.live, goodH, Chunk.good, okL, ok, sz, szL, storL, stor, renT, okT]
      exact ⟨fun i hi => (sv_good hV i hi).1, fun i hi => (sv_good hV i hi).2⟩
    · simp [slot, lkL, fixed, rg, renH, chEq, lookH, eqvL, eqv, eqvF, rnmL, rnm, liveN, Chunk.live, goodH, Chunk.good, okL, ok, sz, szL, storL, stor, renT, okT]
    · simp [slot, lkL, fixed, rg, renH, chEq, lookH, eqvL, eqv, eqvF, rnmL, rnm, liveN, Chunk.live, goodH, Chunk.good, okL, ok, sz, szL, storL, stor, renT, okT]
    · intro j
      exact ⟨n, 0, 0, fun _ => 0, j, by omega, by omega, by omega, fun i hi => absurd hi (by omega), rfl⟩
  · rintro m' s ⟨k, m, sel, j, hk, hmk, hm40, hsel, rfl⟩
    have a0 : k < n → IntKind.i64.wrap ((k : Int) + 1) = ((k + 1 : Nat) : Int) := fun h => by rw [wrap64 (by omega) (by omega)]; omega
    by_cases hkn : k < n
    · obtain ⟨a, c, hv⟩ := hV k hkn
      have g0 : decide ((k : Int) < n) = true := by simpa using hkn
      have a1 := a0 hkn
      simp -implicitDefEqProofs (maxSteps := 1000000) (disch := omega) only [↓vc_skip, ↓vc_label, ↓vc_plain, ↓vc_drawn, ↓vc_seq, ↓vc_cond, ↓vc_block, ↓vc_exit, ↓vc_ret, ↓vc_loop, ↓vc_range, ↓rn_nil, ↓rn_cons, ↓rp_nil, ↓rp_q, ↓rp_e1, ↓rp_e2, ↓Sx.rounds_zero, ↓Sx.rounds_succ, ↓gd, ↓opP, ↓qv, ↓ef, ↓bslS, ↓stS, ↓mkS, ↓appS, ↓s2bS, ↓resS, ev_tmp, ev_const, ev_global, ev_func, Sx.look, slot, ↓lkL, putS, putO, argsL, ↓reduceIte, ofV, of1, lookH, putH, List.length_cons, List.length_nil, List.length_append, List.replicate, List.append, List.cons_append, List.nil_append, List.append_assoc, List.map_cons, List.map_nil, convS, fldA, nthT, idxA, idxS, fldS, oslN, bnd, slS, unS, valI, lenS, takeC, parts_agg, parts_v, parts_int, parts_bool, parts_str, parts_ptr, parts_pix, parts_sl, parts_osl, parts_fam, parts_tup, parts_fn, parts_mp, Pc.parts_sv, asRow, single_agg, single_v, single_int, single_bool, single_str, single_ptr, single_pix, single_sl, single_osl, single_fam, single_tup, single_fn, single_mp, Pc.single_sv, cst0, cst1, cst2, cst32, Int.toNat_natCast, Int.le_refl, and_self, inc0, inc1, rdF, Ent.row, ldS, sz, szL, wrF, bldF, plT, bldS, srcS, nilS, nilEq, binS2, structS, eqL, eqF, binS, arrS, isI, tupS, stor, storL, Value.oneCell', minS, maxS, capS, true_and, and_true, Nat.reduceAdd, Nat.reduceSub, Nat.reduceMul, Nat.reduceLT, Nat.reduceLeDiff, Nat.reduceEqDiff, Nat.reduceBEq, Int.reduceToNat, Int.reduceNeg, Nat.zero_add, Nat.add_zero, Nat.sub_self, Nat.sub_zero, Nat.zero_mul, Nat.mul_one, Nat.zero_le, if_true, if_false, reduceIte, stays, inL, same1, qn, ldN, convN, lenN, List.mem_cons, List.not_mem_nil, Option.map_some, Option.map_none, cond_true, cond_false, Sx.imp_true, Sx.imp_false, implies_true, Int.reduceEq, Int.reduceNe, Int.reduceLE, Int.reduceLT, decide_true, decide_false, List.zipIdx_cons, List.zipIdx_nil, or_false, false_or, forall_eq_or_imp, forall_eq, ne_eq, reduceCtorEq, not_false_eq_true, Bool.false_eq_true, Bool.true_eq_false, Bool.not_true, Bool.not_false, notInt, add32, sub32, add8, sub8, add64, mul64, and32, or32, xor32, and8, or8, and64, or64, not32, not32', c8_32, c8_64, c32_8, c64_8, c64_32, c32_64, shli8, shli32, shli64, shri8, shri32, shri64, tab2, tab3, tab4, tab5, tab9, tab22, tab23, tab25, tab29, tab37, tab40, tab48, tab49, tab51, tab53, tab57, tab64, tab65, tab75, tab76, tab77, tab80, tab81, tab82, tab83, tab87, tab89, tab91, tab99, Array.reduceGetElem?, upG, up, nth, lay, rnmC_0, rnmC_1, rnmC_2, rnmC_3, rnm, rnmL, wr_0, wr_1, wr_2, wr_3, Pc.rnm_sv, Pc.svO_some, Pc.sz_sv, Pc.stor_sv, Pc.ok_sv, Pc.chEq_ch, Pc.good_ch, Pc.rnmC_ch, Pc.wr_ch, Pc.live_ch, rnmC_HS, rnmC_HB, HSO_some, chEq_HS, chEq_HB, wr_HS, wr_HB, live_HS, live_HB, good_HS, good_HB, res36, g0, a1, hv]
      refine ⟨⟨by omega, by omega, by omega⟩, hkn, Sx.imp_intro fun h40 => ⟨Sx.imp_intro fun h200 => ?_, Sx.imp_intro fun h200 => ?_⟩, Sx.imp_intro fun h40 => ?_⟩
      · have hk40 : k < 40 := by have := of_decide_eq_true h40; omega
        have hl : L k ≤ 200 := by have := of_decide_eq_true h200; omega
        refine ⟨rfl, ⟨by omega, by omega⟩, ?_⟩
        rw [← hv]
        have hsel' : ∀ i, i < m + 1 → (if i < m then sel i else k) < n ∧ L (if i < m then sel i else k) ≤ 200 := fun i hi => by
          split
          · rename_i h; exact hsel i h
          · exact ⟨hkn, hl⟩
        refine into_mk [some 0, some 3] [(3, .osl 1 0 0 1 (m + 1)), (6, .osl 0 0 0 1 n), (7, .int .i64 (n : Nat)), (8, .int .i64 (k + 1 : Nat))] [.row false n 1 (fun i => .v (V i)), .row true (m + 1) 1 fun i => .v (V (if i < m then sel i else k))] ?_ ?_ ?_ ?_ ?_ ?_ ?_ ?_
        · simp [slot, lkL, fixed, rg, renH, chEq, lookH, eqvL, eqv, eqvF, rnmL, rnm, liveN, Chunk.live, goodH, Chunk.good, okL, ok, sz, szL, storL, stor, renT, okT]
        · simp [slot, lkL, fixed, rg, renH, chEq, lookH, eqvL, eqv, eqvF, rnmL, rnm, liveN, Chunk.live, goodH, Chunk.good, okL, ok, sz, szL, storL, stor, renT, okT]
        · simp [slot, lkL, fixed, rg, renH, chEq, lookH, eqvL, eqv, eqvF, rnmL, rnm, liveN, Chunk.live, goodH, Chunk.good, okL, ok, sz, szL, storL, stor, renT, okT]
          intro i hi
          by_cases h : i < m
          · simp [h, eqv]
          · have h2 : i = m := by omega
            subst h2
            simp [eqv, Sx.look]
        · simp [slot, lkL, fixed, rg, renH, chEq, lookH, eqvL, eqv, eqvF, rnmL, rnm, liveN, Chunk.live, goodH, Chunk.good, okL, ok, sz, szL, storL, stor, renT, okT]
        · simp [slot, lkL, fixed, rg, renH, chEq, lookH, eqvL, eqv, eqvF, rnmL, rnm, liveN, Chunk.live, goodH, Chunk.good, okL, ok, sz, szL, storL, stor, renT, okT]
          exact ⟨⟨fun i hi => (sv_good hV i hi).1, fun i hi => (sv_good hV i hi).2⟩, fun i hi => (sv_good hV _ (hsel' i hi).1).1, fun i hi => (sv_good hV _ (hsel' i hi).1).2⟩
        · simp [slot, lkL, fixed, rg, renH, chEq, lookH, eqvL, eqv, eqvF, rnmL, rnm, liveN, Chunk.live, goodH, Chunk.good, okL, ok, sz, szL, storL, stor, renT, okT]
        · simp [slot, lkL, fixed, rg, renH, chEq, lookH, eqvL, eqv, eqvF, rnmL, rnm, liveN, Chunk.live, goodH, Chunk.good, okL, ok, sz, szL, storL, stor, renT, okT]
        · intro j
          exact ⟨m' - 1, by omega, k + 1, m + 1, fun i => if i < m then sel i else k, j, by omega, by omega, by omega, hsel', rfl⟩
      · refine into_mk [some 0, some 1] [(3, .osl 1 0 0 1 m), (6, .osl 0 0 0 1 n), (7, .int .i64 (n : Nat)), (8, .int .i64 (k + 1 : Nat))] [.row false n 1 (fun i => .v (V i)), .row true m 1 fun i => .v (V (sel i))] ?_ ?_ ?_ ?_ ?_ ?_ ?_ ?_
        · simp [slot, lkL, fixed, rg, renH, chEq, lookH, eqvL, eqv, eqvF, rnmL, rnm, liveN, Chunk.live, goodH, Chunk.good, okL, ok, sz, szL, storL, stor, renT, okT]
        · simp [slot, lkL, fixed, rg, renH, chEq, lookH, eqvL, eqv, eqvF, rnmL, rnm, liveN, Chunk.live, goodH, Chunk.good, okL, ok, sz, szL, storL, stor, renT, okT]
        · simp [slot, lkL, fixed, rg, renH, chEq, lookH, eqvL, eqv, eqvF, rnmL, rnm, liveN, Chunk.live, goodH, Chunk.good, okL, ok, sz, szL, storL, stor, renT, okT]
        · simp [slot, lkL, fixed, rg, renH, chEq, lookH, eqvL, eqv, eqvF, rnmL, rnm, liveN, Chunk.live, goodH, Chunk.good, okL, ok, sz, szL, storL, stor, renT, okT]
        · simp [slot, lkL, fixed, rg, renH, chEq, lookH, eqvL, eqv, eqvF, rnmL, rnm, liveN, Chunk.live, goodH, Chunk.good, okL, ok, sz, szL, storL, stor, renT, okT]
          exact ⟨⟨fun i hi => (sv_good hV i hi).1, fun i hi => (sv_good hV i hi).2⟩, fun i hi => (sv_good hV _ (hsel i hi).1).1, fun i hi => (sv_good hV _ (hsel i hi).1).2⟩
        · simp [slot, lkL, fixed, rg, renH, chEq, lookH, eqvL, eqv, eqvF, rnmL, rnm, liveN, Chunk.live, goodH, Chunk.good, okL, ok, sz, szL, storL, stor, renT, okT]
        · simp [slot, lkL, fixed, rg, renH, chEq, lookH, eqvL, eqv, eqvF, rnmL, rnm, liveN, Chunk.live, goodH, Chunk.good, okL, ok, sz, szL, storL, stor, renT, okT]
        · intro j
          exact ⟨m' - 1, by omega, k + 1, m, sel, j, by omega, by omega, by omega, hsel, rfl⟩
      · refine into_mk [some 0, some 1] [(3, .osl 1 0 0 1 m), (6, .osl 0 0 0 1 n), (7, .int .i64 (n : Nat)), (8, .int .i64 (k + 1 : Nat))] [.row false n 1 (fun i => .v (V i)), .row true m 1 fun i => .v (V (sel i))] ?_ ?_ ?_ ?_ ?_ ?_ ?_ ?_
        · simp [slot, lkL, fixed, rg, renH, chEq, lookH, eqvL, eqv, eqvF, rnmL, rnm, liveN, Chunk.live, goodH, Chunk.good, okL, ok, sz, szL, storL, stor, renT, okT]
        · simp [slot, lkL, fixed, rg, renH, chEq, lookH, eqvL, eqv, eqvF, rnmL, rnm, liveN, Chunk.live, goodH, Chunk.good, okL, ok, sz, szL, storL, stor, renT, okT]
        · simp [slot, lkL, fixed, rg, renH, chEq, lookH, eqvL, eqv, eqvF, rnmL, rnm, liveN, Chunk.live, goodH, Chunk.good, okL, ok, sz, szL, storL, stor, renT, okT]
        · simp [slot, lkL, fixed, rg, renH, chEq, lookH, eqvL, eqv, eqvF, rnmL, rnm, liveN, Chunk.live, goodH, Chunk.good, okL, ok, sz, szL, storL, stor, renT, okT]
        · simp [slot, lkL, fixed, rg, renH, chEq, lookH, eqvL, eqv, eqvF, rnmL, rnm, liveN, Chunk.live, goodH, Chunk.good, okL, ok, sz, szL, storL, stor, renT, okT]
          exact ⟨⟨fun i hi => (sv_good hV i hi).1, fun i hi => (sv_good hV i hi).2⟩, fun i hi => (sv_good hV _ (hsel i hi).1).1, fun i hi => (sv_good hV _ (hsel i hi).1).2⟩
        · simp [slot, lkL, fixed, rg, renH, chEq, lookH, eqvL, eqv, eqvF, rnmL, rnm, liveN, Chunk.live, goodH, Chunk.good, okL, ok, sz, szL, storL, stor, renT, okT]
        · simp [slot, lkL, fixed, rg, renH, chEq, lookH, eqvL, eqv, eqvF, rnmL, rnm, liveN, Chunk.live, goodH, Chunk.good, okL, ok, sz, szL, storL, stor, renT, okT]
        · intro j
          exact ⟨m' - 1, by omega, k + 1, m, sel, j, by omega, by omega, by omega, hsel, rfl⟩
    · have g0 : decide ((k : Int) < n) = false := by simpa using hkn
      simp -implicitDefEqProofs (maxSteps := 1000000) (disch := omega) only [↓vc_skip, ↓vc_label, ↓vc_plain, ↓vc_drawn, ↓vc_seq, ↓vc_cond, ↓vc_block, ↓vc_exit, ↓vc_ret, ↓vc_loop, ↓vc_range, ↓rn_nil, ↓rn_cons, ↓rp_nil, ↓rp_q, ↓rp_e1, ↓rp_e2, ↓Sx.rounds_zero, ↓Sx.rounds_succ, ↓gd, ↓opP, ↓qv, ↓ef, ↓bslS, ↓stS, ↓mkS, ↓appS, ↓s2bS, ↓resS, ev_tmp, ev_const, ev_global, ev_func, Sx.look, slot, ↓lkL, putS, putO, argsL, ↓reduceIte, ofV, of1, lookH, putH, List.length_cons, List.length_nil, List.length_append, List.replicate, List.append, List.cons_append, List.nil_append, List.append_assoc, List.map_cons, List.map_nil, convS, fldA, nthT, idxA, idxS, fldS, oslN, bnd, slS, unS, valI, lenS, takeC, parts_agg, parts_v, parts_int, parts_bool, parts_str, parts_ptr, parts_pix, parts_sl, parts_osl, parts_fam, parts_tup, parts_fn, parts_mp, Pc.parts_sv, asRow, single_agg, single_v, single_int, single_bool, single_str, single_ptr, single_pix, single_sl, single_osl, single_fam, single_tup, single_fn, single_mp, Pc.single_sv, cst0, cst1, cst2, cst32, Int.toNat_natCast, Int.le_refl, and_self, inc0, inc1, rdF, Ent.row, ldS, sz, szL, wrF, bldF, plT, bldS, srcS, nilS, nilEq, binS2, structS, eqL, eqF, binS, arrS, isI, tupS, stor, storL, Value.oneCell', minS, maxS, capS, true_and, and_true, Nat.reduceAdd, Nat.reduceSub, Nat.reduceMul, Nat.reduceLT, Nat.reduceLeDiff, Nat.reduceEqDiff, Nat.reduceBEq, Int.reduceToNat, Int.reduceNeg, Nat.zero_add, Nat.add_zero, Nat.sub_self, Nat.sub_zero, Nat.zero_mul, Nat.mul_one, Nat.zero_le, if_true, if_false, reduceIte, stays, inL, same1, qn, ldN, convN, lenN, List.mem_cons, List.not_mem_nil, Option.map_some, Option.map_none, cond_true, cond_false, Sx.imp_true, Sx.imp_false, implies_true, Int.reduceEq, Int.reduceNe, Int.reduceLE, Int.reduceLT, decide_true, decide_false, List.zipIdx_cons, List.zipIdx_nil, or_false, false_or, forall_eq_or_imp, forall_eq, ne_eq, reduceCtorEq, not_false_eq_true, Bool.false_eq_true, Bool.true_eq_false, Bool.not_true, Bool.not_false, notInt, add32, sub32, add8, sub8, add64, mul64, and32, or32, xor32, and8, or8, and64, or64, not32, not32', c8_32, c8_64, c32_8, c64_8, c64_32, c32_64, shli8, shli32, shli64, shri8, shri32, shri64, tab2, tab3, tab4, tab5, tab9, tab22, tab23, tab25, tab29, tab37, tab40, tab48, tab49, tab51, tab53, tab57, tab64, tab65, tab75, tab76, tab77, tab80, tab81, tab82, tab83, tab87, tab89, tab91, tab99, Array.reduceGetElem?, upG, up, nth, lay, rnmC_0, rnmC_1, rnmC_2, rnmC_3, rnm, rnmL, wr_0, wr_1, wr_2, wr_3, Pc.rnm_sv, Pc.svO_some, Pc.sz_sv, Pc.stor_sv, Pc.ok_sv, Pc.chEq_ch, Pc.good_ch, Pc.rnmC_ch, Pc.wr_ch, Pc.live_ch, rnmC_HS, rnmC_HB, HSO_some, chEq_HS, chEq_HB, wr_HS, wr_HB, live_HS, live_HB, good_HS, good_HB, res36, g0]
      refine intoR_mk [some 0, some 1] (.osl 1 0 0 1 m) [.row false n 1 (fun i => .v (V i)), .row true m 1 fun i => .v (V (sel i))] ?_ ?_ ?_ ?_ ?_ ?_ ?_ (hK m sel hm40 hsel)
      · simp [slot, lkL, fixed, rg, renH, chEq, lookH, eqvL, eqv, eqvF, rnmL, rnm, liveN, Chunk.live, goodH, Chunk.good, okL, ok, sz, szL, storL, stor, renT, okT]
      · simp [slot, lkL, fixed, rg, renH, chEq, lookH, eqvL, eqv, eqvF, rnmL, rnm, liveN, Chunk.live, goodH, Chunk.good, okL, ok, sz, szL, storL, stor, renT, okT]
      · simp [slot, lkL, fixed, rg, renH, chEq, lookH, eqvL, eqv, eqvF, rnmL, rnm, liveN, Chunk.live, goodH, Chunk.good, okL, ok, sz, szL, storL, stor, renT, okT]
      · simp [slot, lkL, fixed, rg, renH, chEq, lookH, eqvL, eqv, eqvF, rnmL, rnm, liveN, Chunk.live, goodH, Chunk.good, okL, ok, sz, szL, storL, stor, renT, okT]
      · simp [slot, lkL, fixed, rg, renH, chEq, lookH, eqvL, eqv, eqvF, rnmL, rnm, liveN, Chunk.live, goodH, Chunk.good, okL, ok, sz, szL, storL, stor, renT, okT]
        exact ⟨⟨fun i hi => (sv_good hV i hi).1, fun i hi => (sv_good hV i hi).2⟩, fun i hi => (sv_good hV _ (hsel i hi).1).1, fun i hi => (sv_good hV _ (hsel i hi).1).2⟩
      · simp [slot, lkL, fixed, rg, renH, chEq, lookH, eqvL, eqv, eqvF, rnmL, rnm, liveN, Chunk.live, goodH, Chunk.good, okL, ok, sz, szL, storL, stor, renT, okT]
      · simp [slot, lkL, fixed, rg, renH, chEq, lookH, eqvL, eqv, eqvF, rnmL, rnm, liveN, Chunk.live, goodH, Chunk.good, okL, ok, sz, szL, storL, stor, renT, okT]
end Go.Proofs.Ytbjelfgclhmedaa
