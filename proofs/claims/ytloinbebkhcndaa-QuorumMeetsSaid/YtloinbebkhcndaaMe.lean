/- Texts put together: The kit's contracts of slices.Sort, laid at this program; as contracts of the symbolic executor. No condition. -/
import Derived.Shelf.Sort.Plain
import Derived.Shelf.Slices.In.SortNone
import Derived.Test.YtloinbebkhcndaaMd
import Derived.Test.YtloinbebkhcndaaMc
set_option linter.all false
set_option maxRecDepth 40000
namespace Go.Proofs.Ytloinbebkhcndaa
open Go Go.Sx Go.Shelf
def lays189_ren : Go.Shelf.Ren := ⟨fun | 189 => 103 | 125 => 116 | 257 => 115 | 128 => 130 | 129 => 131 | 294 => 121 | 295 => 122 | 296 => 123 | 297 => 124 | 298 => 125 | 299 => 126 | 216 => 127 | 300 => 128 | 301 => 129 | 328 => 141 | 329 => 142 | 330 => 143 | 331 => 144 | 332 => 145 | 215 => 146 | 343 => 151 | n => n, fun | 28 => 25 | 3 => 3 | 46 => 117 | 0 => 0 | 51 => 128 | 53 => 68 | 4 => 4 | 183 => 122 | 182 => 121 | 131 => 43 | 5 => 5 | 9 => 9 | 218 => 136 | 222 => 140 | 228 => 144 | 229 => 145 | n => n, fun | n => n⟩
theorem lays189 : Go.Proofs.Lays.n189 Try.prog lays189_ren := {
  mixed := by kernel_rfl
  f125 := Try.func116.trans (congrArg some (by kernel_rfl))
  f128 := Try.func130.trans (congrArg some (by kernel_rfl))
  f129 := Try.func131.trans (congrArg some (by kernel_rfl))
  f189 := Try.func103.trans (congrArg some (by kernel_rfl))
  f215 := Try.func146.trans (congrArg some (by kernel_rfl))
  f216 := Try.func127.trans (congrArg some (by kernel_rfl))
  f257 := Try.func115.trans (congrArg some (by kernel_rfl))
  f294 := Try.func121.trans (congrArg some (by kernel_rfl))
  f295 := Try.func122.trans (congrArg some (by kernel_rfl))
  f296 := Try.func123.trans (congrArg some (by kernel_rfl))
  f297 := Try.func124.trans (congrArg some (by kernel_rfl))
  f298 := Try.func125.trans (congrArg some (by kernel_rfl))
  f299 := Try.func126.trans (congrArg some (by kernel_rfl))
  f300 := Try.func128.trans (congrArg some (by kernel_rfl))
  f301 := Try.func129.trans (congrArg some (by kernel_rfl))
  f328 := Try.func141.trans (congrArg some (by kernel_rfl))
  f329 := Try.func142.trans (congrArg some (by kernel_rfl))
  f330 := Try.func143.trans (congrArg some (by kernel_rfl))
  f331 := Try.func144.trans (congrArg some (by kernel_rfl))
  f332 := Try.func145.trans (congrArg some (by kernel_rfl))
  f343 := Try.func151.trans (congrArg some (by kernel_rfl))
  t0 := Try.underlying0
  a0 := Try.isAgg0
  z0 := Try.sizeOf0
  v0 := Try.zeroValue0
  t3 := Try.underlying3
  a3 := Try.isAgg3
  z3 := Try.sizeOf3
  v3 := Try.zeroValue3
  t4 := Try.underlying4
  a4 := Try.isAgg4
  z4 := Try.sizeOf4
  v4 := Try.zeroValue4
  t5 := Try.underlying5
  a5 := Try.isAgg5
  z5 := Try.sizeOf5
  v5 := Try.zeroValue5
  t9 := Try.underlying9
  a9 := Try.isAgg9
  z9 := Try.sizeOf9
  v9 := Try.zeroValue9
  t28 := Try.underlying25
  a28 := Try.isAgg25
  z28 := Try.sizeOf25
  v28 := Try.zeroValue25
  t46 := Try.underlying117
  a46 := Try.isAgg117
  z46 := Try.sizeOf117
  v46 := Try.zeroValue117
  t51 := Try.underlying128
  a51 := Try.isAgg128
  z51 := Try.sizeOf128
  v51 := Try.zeroValue128
  t53 := Try.underlying68
  a53 := Try.isAgg68
  z53 := Try.sizeOf68
  v53 := Try.zeroValue68
  t131 := Try.underlying43
  a131 := Try.isAgg43
  z131 := Try.sizeOf43
  v131 := Try.zeroValue43
  t182 := Try.underlying121
  a182 := Try.isAgg121
  z182 := Try.sizeOf121
  v182 := Try.zeroValue121
  t183 := Try.underlying122
  a183 := Try.isAgg122
  z183 := Try.sizeOf122
  v183 := Try.zeroValue122
  t218 := Try.underlying136
  a218 := Try.isAgg136
  z218 := Try.sizeOf136
  v218 := Try.zeroValue136
  t222 := Try.underlying140
  a222 := Try.isAgg140
  z222 := Try.sizeOf140
  v222 := Try.zeroValue140
  t228 := Try.underlying144
  a228 := Try.isAgg144
  z228 := Try.sizeOf144
  v228 := Try.zeroValue144
  t229 := Try.underlying145
  a229 := Try.isAgg145
  z229 := Try.sizeOf145
  v229 := Try.zeroValue145 }
theorem c103 {P : Pr} (hP : P.p = Try.prog) {h : List Chunk} {k : Nat} (zs : List Int) (hk : lookH h k = .row true zs.length 1 fun i => .int .i64 (zs.getD i default)) (hz : zs.length < 4611686018427387904) {K : Tok → SV → List Chunk → Prop}
    (hK0 : zs = [] → K .mk (.tup []) h) (hK : zs ≠ [] → K .mk (.tup []) (putH h k (.row true zs.length 1 fun i => .int .i64 ((zs.mergeSort fun x y => decide (x ≤ y)).getD i default)))) : callP P 103 [.osl k 0 0 1 zs.length] h K :=
  callP_sort (enc := Value.int .i64) (sv := SV.int .i64) (srt := fun zs => zs.mergeSort fun x y => decide (x ≤ y)) (fun _ _ => rfl) (fun _ => rfl) (fun _ => ⟨rfl, trivial, trivial⟩) (fun _ => List.length_mergeSort _) (by rw [hP]; exact enter_eq Try.func103 (by kernel_rfl) rfl)
    (fun blk off cap zs w hH hblk hsz => by rw [hP]; exact ⟨_, _, fun D => AnyS.slices_Sort_int_in lays189 D blk off cap zs w hH hblk hsz⟩) (fun p cap w => by rw [hP]; exact ⟨_, _, fun D => AnyS.slices_Sort_int_none_in lays189 D p cap w⟩) zs hk hz hK0 hK
end Go.Proofs.Ytloinbebkhcndaa

set_option linter.all false
set_option maxRecDepth 40000
namespace Go.Proofs.Ytloinbebkhcndaa
open Go Go.Sx


theorem res114 : Try.f114.results.toList = [.tmp 4] := rfl
theorem res102 : Try.f102.results.toList = [.tmp 2] := rfl
theorem res86 : Try.f86.results.toList = [.tmp 2] := rfl
/-- slices.AppendSeq, of a sequence of keys that is known. -/
theorem c114k (f : FuncId) (lb : List Value) (n : Nat) (hn : n ≤ 1000) (ks : Nat → Int) : callP (seqRPr Try.prog f lb (keyR n fun j => den (fun _ => ⟨0, 0, 0, true⟩) (.int .i64 (ks j))) (keyF n)) 114 [.v (.slice none 0 0), .v (.func (.func f) #[] ⟨lb⟩)] [] (fun _ v h' => ∃ zs : List Int, zs.Perm ((List.range n).map ks) ∧ v = .osl 0 0 0 1 zs.length ∧ h' = [.row true zs.length 1 fun i => .int .i64 (zs.getD i default)]) := by
  refine callP_of_codeY (P := (seqRPr Try.prog f lb (keyR n fun j => den (fun _ => ⟨0, 0, 0, true⟩) (.int .i64 (ks j))) (keyF n))) tabOk Try.func114 (by kernel_rfl) rfl (Nat.le_of_ble_eq_true rfl) (fv := .nilFunc) (fx := fun _ => none) (nofx _) ?_
  refine codeY_of_vc (pl := np) tabOk follows_mixed (by kernel_rfl) ?_
  rw [Try.ntmps114]
  simp -implicitDefEqProofs (maxSteps := 1000000) (disch := omega) only [↓vcB, ↓gd, ↓opP, ↓qv, ↓ef, ↓bslS, ↓stS, ↓mkS, ↓rangeS, ↓nextS, ↓entryS, ↓delS, ↓mupS, ↓appS, ↓s2bS, ↓resS, evB, Sx.look, slot, ↓lkL, putS, putO, argsL, ↓reduceIte, ofV, of1, lookH, putH, List.length_cons, List.length_nil, List.length_append, List.replicate, List.append, List.cons_append, List.nil_append, List.append_assoc, List.map_cons, List.map_nil, convS, fldA, nthT, idxA, idxS, fldS, oslN, bnd, slS, unS, valI, lenS, lookS, takeC, psB, asRow, csB, Int.toNat_natCast, Int.le_refl, and_self, rdF, Ent.row, ldS, sz, szL, wrF, bldF, plT, bldS, srcS, nilS, nilEq, mapC, binH, binS2, structS, eqL, eqF, binS, arrS, isI, tupS, stor, storL, Value.oneCell', minS, maxS, capS, true_and, and_true, Nat.reduceAdd, Nat.reduceSub, Nat.reduceMul, Nat.reduceLT, Nat.reduceLeDiff, Nat.reduceEqDiff, Nat.reduceBEq, Int.reduceToNat, Int.reduceNeg, Nat.zero_add, Nat.add_zero, Nat.sub_self, Nat.sub_zero, Nat.zero_mul, Nat.mul_one, Nat.zero_le, if_true, if_false, reduceIte, stays, inL, same1, qn, ldN, convN, lenN, List.mem_cons, List.not_mem_nil, Option.map_some, Option.map_none, cond_true, cond_false, Sx.imp_true, Sx.imp_false, implies_true, Int.reduceEq, Int.reduceNe, Int.reduceLE, Int.reduceLT, decide_true, decide_false, List.zipIdx_cons, List.zipIdx_nil, or_false, false_or, forall_eq_or_imp, forall_eq, ne_eq, reduceCtorEq, not_false_eq_true, Bool.false_eq_true, Bool.true_eq_false, Bool.not_true, Bool.not_false, notInt, numB, tabB, ↓vyB, ↓opY, roA, liveA, lvB, frz, frz1, true_or, Array.reduceGetElem?, upG, up, nth, lay, rcB, rnm, rnmL, wrB, pcB, Value.oneCell']
  refine codeY_rangeR [] (fun i sv i' => ∃ p j, Pl n p ∧ j < n ∧ j ∉ p ∧ i = cd n p ∧ sv = .int .i64 (ks j) ∧ i' = cd n (j :: p)) (fun i => ∃ p, Pl n p ∧ p.length = n ∧ i = cd n p) (fun _ => True) ?_ (by simp [roA, liveA, lookH, Chunk.live, Chunk.wr]) (by simp) (fun ρ w X hk _ => ?_)
    (fun i g h' => g = .run 0 ∧ ∃ p, Pl n p ∧ i = cd n p ∧ ((p = [] ∧ h' = [.cells true [.v (.slice none 0 0)]]) ∨ (p ≠ [] ∧ h' = [.cells true [.osl 1 0 0 1 (p).length], .row true (p).length 1 fun i => .int .i64 (ks ((p).reverse.getD i 0))]))) (fun i g e h' => False) ?_ ?_ ?_ ?_
  · rintro i sv i' ⟨p, j, _, _, _, _, rfl, _⟩
    trivial
  · obtain ⟨B, h1, h2⟩ := hk
    refine ⟨f, lb, B, rfl, h2.mono ?_, fun b hb => .inl (h1 b hb)⟩
    rintro i v i' ⟨p, j, q1, q2, q3, q4, rfl, q6⟩
    exact ⟨_, ⟨p, j, q1, q2, q3, q4, rfl, q6⟩, rfl⟩
  · exact ⟨rfl, [], Pl.nil n, rfl, .inl ⟨rfl, by simp [frz, inL]⟩⟩
  · rintro _ _ _ g h' ⟨p, j, hp, hj, hjp, rfl, rfl, rfl⟩ ⟨rfl, p1, hp1, he, hcase⟩
    obtain rfl := cd_inj n p p1 hp.2 hp1.2 he
    have hpj := hp.cons hj hjp
    have hle := hpj.le
    simp only [List.length_cons] at hle
    rcases hcase with ⟨rfl, rfl⟩ | ⟨hne, rfl⟩
    · refine codeY_of_vc (pl := np) tabOk follows_mixed (by kernel_rfl) ?_
      simp -implicitDefEqProofs (maxSteps := 1000000) (disch := omega) only [↓vcB, ↓gd, ↓opP, ↓qv, ↓ef, ↓bslS, ↓stS, ↓mkS, ↓rangeS, ↓nextS, ↓entryS, ↓delS, ↓mupS, ↓appS, ↓s2bS, ↓resS, evB, Sx.look, slot, ↓lkL, putS, putO, argsL, ↓reduceIte, ofV, of1, lookH, putH, List.length_cons, List.length_nil, List.length_append, List.replicate, List.append, List.cons_append, List.nil_append, List.append_assoc, List.map_cons, List.map_nil, convS, fldA, nthT, idxA, idxS, fldS, oslN, bnd, slS, unS, valI, lenS, lookS, takeC, psB, asRow, csB, Int.toNat_natCast, Int.le_refl, and_self, rdF, Ent.row, ldS, sz, szL, wrF, bldF, plT, bldS, srcS, nilS, nilEq, mapC, binH, binS2, structS, eqL, eqF, binS, arrS, isI, tupS, stor, storL, Value.oneCell', minS, maxS, capS, true_and, and_true, Nat.reduceAdd, Nat.reduceSub, Nat.reduceMul, Nat.reduceLT, Nat.reduceLeDiff, Nat.reduceEqDiff, Nat.reduceBEq, Int.reduceToNat, Int.reduceNeg, Nat.zero_add, Nat.add_zero, Nat.sub_self, Nat.sub_zero, Nat.zero_mul, Nat.mul_one, Nat.zero_le, if_true, if_false, reduceIte, stays, inL, same1, qn, ldN, convN, lenN, List.mem_cons, List.not_mem_nil, Option.map_some, Option.map_none, cond_true, cond_false, Sx.imp_true, Sx.imp_false, implies_true, Int.reduceEq, Int.reduceNe, Int.reduceLE, Int.reduceLT, decide_true, decide_false, List.zipIdx_cons, List.zipIdx_nil, or_false, false_or, forall_eq_or_imp, forall_eq, ne_eq, reduceCtorEq, not_false_eq_true, Bool.false_eq_true, Bool.true_eq_false, Bool.not_true, Bool.not_false, notInt, numB, tabB, ↓vyB, ↓opY, roA, liveA, lvB, frz, frz1, true_or, Array.reduceGetElem?, upG, up, nth, lay, rcB, rnm, rnmL, wrB, pcB]
      refine codeY_of_vc (pl := np) tabOk follows_mixed (by kernel_rfl) ?_
      simp -implicitDefEqProofs (maxSteps := 1000000) (disch := omega) only [↓vcB, ↓gd, ↓opP, ↓qv, ↓ef, ↓bslS, ↓stS, ↓mkS, ↓rangeS, ↓nextS, ↓entryS, ↓delS, ↓mupS, ↓appS, ↓s2bS, ↓resS, evB, Sx.look, slot, ↓lkL, putS, putO, argsL, ↓reduceIte, ofV, of1, lookH, putH, List.length_cons, List.length_nil, List.length_append, List.replicate, List.append, List.cons_append, List.nil_append, List.append_assoc, List.map_cons, List.map_nil, convS, fldA, nthT, idxA, idxS, fldS, oslN, bnd, slS, unS, valI, lenS, lookS, takeC, psB, asRow, csB, Int.toNat_natCast, Int.le_refl, and_self, rdF, Ent.row, ldS, sz, szL, wrF, bldF, plT, bldS, srcS, nilS, nilEq, mapC, binH, binS2, structS, eqL, eqF, binS, arrS, isI, tupS, stor, storL, Value.oneCell', minS, maxS, capS, true_and, and_true, Nat.reduceAdd, Nat.reduceSub, Nat.reduceMul, Nat.reduceLT, Nat.reduceLeDiff, Nat.reduceEqDiff, Nat.reduceBEq, Int.reduceToNat, Int.reduceNeg, Nat.zero_add, Nat.add_zero, Nat.sub_self, Nat.sub_zero, Nat.zero_mul, Nat.mul_one, Nat.zero_le, if_true, if_false, reduceIte, stays, inL, same1, qn, ldN, convN, lenN, List.mem_cons, List.not_mem_nil, Option.map_some, Option.map_none, cond_true, cond_false, Sx.imp_true, Sx.imp_false, implies_true, Int.reduceEq, Int.reduceNe, Int.reduceLE, Int.reduceLT, decide_true, decide_false, List.zipIdx_cons, List.zipIdx_nil, or_false, false_or, forall_eq_or_imp, forall_eq, ne_eq, reduceCtorEq, not_false_eq_true, Bool.false_eq_true, Bool.true_eq_false, Bool.not_true, Bool.not_false, notInt, numB, tabB, ↓vyB, ↓opY, roA, liveA, lvB, frz, frz1, true_or, Array.reduceGetElem?, upG, up, nth, lay, rcB, rnm, rnmL, wrB, pcB, csz_slice']
      repeat (refine ⟨by omega, ?_⟩)
      intro d
      refine into_mk [some 0, some 2] [] [.cells true [.osl 1 0 0 1 ([j]).length], .row true ([j]).length 1 fun i => .int .i64 (ks (([j]).reverse.getD i 0))] ?_ ?_ ?_ ?_ ?_ ?_ ?_ fun j' => ⟨rfl, ⟨[j], hpj, rfl, .inr ⟨by simp, rfl⟩⟩, by simp [roA, liveA, lookH, frz, frz1, inL, Chunk.live, Chunk.wr]⟩
      · simp [slot, lkL, fixed, rg, renH, chEq, lookH, eqvL, eqv, eqvF, rnmL, rnm, liveN, Chunk.live, goodH, Chunk.good, okL, ok, sz, szL, storL, stor, renT, okT]
      · simp [slot, lkL, fixed, rg, renH, chEq, lookH, eqvL, eqv, eqvF, rnmL, rnm, liveN, Chunk.live, goodH, Chunk.good, okL, ok, sz, szL, storL, stor, renT, okT]
      · simp [slot, lkL, fixed, rg, renH, chEq, lookH, eqvL, eqv, eqvF, rnmL, rnm, liveN, Chunk.live, goodH, Chunk.good, okL, ok, sz, szL, storL, stor, renT, okT, Sx.look]
      · simp [slot, lkL, fixed, rg, renH, chEq, lookH, eqvL, eqv, eqvF, rnmL, rnm, liveN, Chunk.live, goodH, Chunk.good, okL, ok, sz, szL, storL, stor, renT, okT]
      · simp [slot, lkL, fixed, rg, renH, chEq, lookH, eqvL, eqv, eqvF, rnmL, rnm, liveN, Chunk.live, goodH, Chunk.good, okL, ok, sz, szL, storL, stor, renT, okT, Value.oneCell']
      · simp [slot, lkL, fixed, rg, renH, chEq, lookH, eqvL, eqv, eqvF, rnmL, rnm, liveN, Chunk.live, goodH, Chunk.good, okL, ok, sz, szL, storL, stor, renT, okT]
      · simp [slot, lkL, fixed, rg, renH, chEq, lookH, eqvL, eqv, eqvF, rnmL, rnm, liveN, Chunk.live, goodH, Chunk.good, okL, ok, sz, szL, storL, stor, renT, okT]
    · refine codeY_of_vc (pl := np) tabOk follows_mixed (by kernel_rfl) ?_
      simp -implicitDefEqProofs (maxSteps := 1000000) (disch := omega) only [↓vcB, ↓gd, ↓opP, ↓qv, ↓ef, ↓bslS, ↓stS, ↓mkS, ↓rangeS, ↓nextS, ↓entryS, ↓delS, ↓mupS, ↓appS, ↓s2bS, ↓resS, evB, Sx.look, slot, ↓lkL, putS, putO, argsL, ↓reduceIte, ofV, of1, lookH, putH, List.length_cons, List.length_nil, List.length_append, List.replicate, List.append, List.cons_append, List.nil_append, List.append_assoc, List.map_cons, List.map_nil, convS, fldA, nthT, idxA, idxS, fldS, oslN, bnd, slS, unS, valI, lenS, lookS, takeC, psB, asRow, csB, Int.toNat_natCast, Int.le_refl, and_self, rdF, Ent.row, ldS, sz, szL, wrF, bldF, plT, bldS, srcS, nilS, nilEq, mapC, binH, binS2, structS, eqL, eqF, binS, arrS, isI, tupS, stor, storL, Value.oneCell', minS, maxS, capS, true_and, and_true, Nat.reduceAdd, Nat.reduceSub, Nat.reduceMul, Nat.reduceLT, Nat.reduceLeDiff, Nat.reduceEqDiff, Nat.reduceBEq, Int.reduceToNat, Int.reduceNeg, Nat.zero_add, Nat.add_zero, Nat.sub_self, Nat.sub_zero, Nat.zero_mul, Nat.mul_one, Nat.zero_le, if_true, if_false, reduceIte, stays, inL, same1, qn, ldN, convN, lenN, List.mem_cons, List.not_mem_nil, Option.map_some, Option.map_none, cond_true, cond_false, Sx.imp_true, Sx.imp_false, implies_true, Int.reduceEq, Int.reduceNe, Int.reduceLE, Int.reduceLT, decide_true, decide_false, List.zipIdx_cons, List.zipIdx_nil, or_false, false_or, forall_eq_or_imp, forall_eq, ne_eq, reduceCtorEq, not_false_eq_true, Bool.false_eq_true, Bool.true_eq_false, Bool.not_true, Bool.not_false, notInt, numB, tabB, ↓vyB, ↓opY, roA, liveA, lvB, frz, frz1, true_or, Array.reduceGetElem?, upG, up, nth, lay, rcB, rnm, rnmL, wrB, pcB]
      refine codeY_of_vc (pl := np) tabOk follows_mixed (by kernel_rfl) ?_
      simp -implicitDefEqProofs (maxSteps := 1000000) (disch := omega) only [↓vcB, ↓gd, ↓opP, ↓qv, ↓ef, ↓bslS, ↓stS, ↓mkS, ↓rangeS, ↓nextS, ↓entryS, ↓delS, ↓mupS, ↓appS, ↓s2bS, ↓resS, evB, Sx.look, slot, ↓lkL, putS, putO, argsL, ↓reduceIte, ofV, of1, lookH, putH, List.length_cons, List.length_nil, List.length_append, List.replicate, List.append, List.cons_append, List.nil_append, List.append_assoc, List.map_cons, List.map_nil, convS, fldA, nthT, idxA, idxS, fldS, oslN, bnd, slS, unS, valI, lenS, lookS, takeC, psB, asRow, csB, Int.toNat_natCast, Int.le_refl, and_self, rdF, Ent.row, ldS, sz, szL, wrF, bldF, plT, bldS, srcS, nilS, nilEq, mapC, binH, binS2, structS, eqL, eqF, binS, arrS, isI, tupS, stor, storL, Value.oneCell', minS, maxS, capS, true_and, and_true, Nat.reduceAdd, Nat.reduceSub, Nat.reduceMul, Nat.reduceLT, Nat.reduceLeDiff, Nat.reduceEqDiff, Nat.reduceBEq, Int.reduceToNat, Int.reduceNeg, Nat.zero_add, Nat.add_zero, Nat.sub_self, Nat.sub_zero, Nat.zero_mul, Nat.mul_one, Nat.zero_le, if_true, if_false, reduceIte, stays, inL, same1, qn, ldN, convN, lenN, List.mem_cons, List.not_mem_nil, Option.map_some, Option.map_none, cond_true, cond_false, Sx.imp_true, Sx.imp_false, implies_true, Int.reduceEq, Int.reduceNe, Int.reduceLE, Int.reduceLT, decide_true, decide_false, List.zipIdx_cons, List.zipIdx_nil, or_false, false_or, forall_eq_or_imp, forall_eq, ne_eq, reduceCtorEq, not_false_eq_true, Bool.false_eq_true, Bool.true_eq_false, Bool.not_true, Bool.not_false, notInt, numB, tabB, ↓vyB, ↓opY, roA, liveA, lvB, frz, frz1, true_or, Array.reduceGetElem?, upG, up, nth, lay, rcB, rnm, rnmL, wrB, pcB, csz_slice']
      repeat (refine ⟨by omega, ?_⟩)
      intro d
      refine into_mk [some 0, some 3] [] [.cells true [.osl 1 0 0 1 (j :: p).length], .row true (j :: p).length 1 fun i => .int .i64 (ks ((j :: p).reverse.getD i 0))] ?_ ?_ ?_ ?_ ?_ ?_ ?_ fun j' => ⟨rfl, ⟨j :: p, hpj, rfl, .inr ⟨by simp, rfl⟩⟩, by simp [roA, liveA, lookH, frz, frz1, inL, Chunk.live, Chunk.wr]⟩
      · simp [slot, lkL, fixed, rg, renH, chEq, lookH, eqvL, eqv, eqvF, rnmL, rnm, liveN, Chunk.live, goodH, Chunk.good, okL, ok, sz, szL, storL, stor, renT, okT]
      · simp [slot, lkL, fixed, rg, renH, chEq, lookH, eqvL, eqv, eqvF, rnmL, rnm, liveN, Chunk.live, goodH, Chunk.good, okL, ok, sz, szL, storL, stor, renT, okT]
      · simp [slot, lkL, fixed, rg, renH, chEq, lookH, eqvL, eqv, eqvF, rnmL, rnm, liveN, Chunk.live, goodH, Chunk.good, okL, ok, sz, szL, storL, stor, renT, okT, Sx.look]
        intro i hi
        by_cases hlt : i < p.length
        · simp [hlt, eqv, List.getElem?_append_left]
        · obtain rfl : i = p.length := by omega
          simp [Sx.look, eqv]
      · simp [slot, lkL, fixed, rg, renH, chEq, lookH, eqvL, eqv, eqvF, rnmL, rnm, liveN, Chunk.live, goodH, Chunk.good, okL, ok, sz, szL, storL, stor, renT, okT]
      · simp [slot, lkL, fixed, rg, renH, chEq, lookH, eqvL, eqv, eqvF, rnmL, rnm, liveN, Chunk.live, goodH, Chunk.good, okL, ok, sz, szL, storL, stor, renT, okT, Value.oneCell']
      · simp [slot, lkL, fixed, rg, renH, chEq, lookH, eqvL, eqv, eqvF, rnmL, rnm, liveN, Chunk.live, goodH, Chunk.good, okL, ok, sz, szL, storL, stor, renT, okT]
      · simp [slot, lkL, fixed, rg, renH, chEq, lookH, eqvL, eqv, eqvF, rnmL, rnm, liveN, Chunk.live, goodH, Chunk.good, okL, ok, sz, szL, storL, stor, renT, okT]
  · rintro i g h' ⟨p, hp, hl, rfl⟩ ⟨rfl, p1, hp1, he, hcase⟩
    obtain rfl := cd_inj n p p1 hp.2 hp1.2 he
    rcases hcase with ⟨rfl, rfl⟩ | ⟨hne, rfl⟩
    · simp -implicitDefEqProofs (maxSteps := 1000000) (disch := omega) only [↓vcB, ↓gd, ↓opP, ↓qv, ↓ef, ↓bslS, ↓stS, ↓mkS, ↓rangeS, ↓nextS, ↓entryS, ↓delS, ↓mupS, ↓appS, ↓s2bS, ↓resS, evB, Sx.look, slot, ↓lkL, putS, putO, argsL, ↓reduceIte, ofV, of1, lookH, putH, List.length_cons, List.length_nil, List.length_append, List.replicate, List.append, List.cons_append, List.nil_append, List.append_assoc, List.map_cons, List.map_nil, convS, fldA, nthT, idxA, idxS, fldS, oslN, bnd, slS, unS, valI, lenS, lookS, takeC, psB, asRow, csB, Int.toNat_natCast, Int.le_refl, and_self, rdF, Ent.row, ldS, sz, szL, wrF, bldF, plT, bldS, srcS, nilS, nilEq, mapC, binH, binS2, structS, eqL, eqF, binS, arrS, isI, tupS, stor, storL, Value.oneCell', minS, maxS, capS, true_and, and_true, Nat.reduceAdd, Nat.reduceSub, Nat.reduceMul, Nat.reduceLT, Nat.reduceLeDiff, Nat.reduceEqDiff, Nat.reduceBEq, Int.reduceToNat, Int.reduceNeg, Nat.zero_add, Nat.add_zero, Nat.sub_self, Nat.sub_zero, Nat.zero_mul, Nat.mul_one, Nat.zero_le, if_true, if_false, reduceIte, stays, inL, same1, qn, ldN, convN, lenN, List.mem_cons, List.not_mem_nil, Option.map_some, Option.map_none, cond_true, cond_false, Sx.imp_true, Sx.imp_false, implies_true, Int.reduceEq, Int.reduceNe, Int.reduceLE, Int.reduceLT, decide_true, decide_false, List.zipIdx_cons, List.zipIdx_nil, or_false, false_or, forall_eq_or_imp, forall_eq, ne_eq, reduceCtorEq, not_false_eq_true, Bool.false_eq_true, Bool.true_eq_false, Bool.not_true, Bool.not_false, notInt, numB, tabB, ↓vyB, ↓opY, roA, liveA, lvB, frz, frz1, true_or, Array.reduceGetElem?, upG, up, nth, lay, rcB, rnm, rnmL, wrB, pcB, res114]
      have hn0 : n = 0 := by simpa using hl.symm
      subst hn0
      exact intoR_nilT [] rfl rfl trivial ⟨[], by simp, rfl, rfl⟩
    · simp -implicitDefEqProofs (maxSteps := 1000000) (disch := omega) only [↓vcB, ↓gd, ↓opP, ↓qv, ↓ef, ↓bslS, ↓stS, ↓mkS, ↓rangeS, ↓nextS, ↓entryS, ↓delS, ↓mupS, ↓appS, ↓s2bS, ↓resS, evB, Sx.look, slot, ↓lkL, putS, putO, argsL, ↓reduceIte, ofV, of1, lookH, putH, List.length_cons, List.length_nil, List.length_append, List.replicate, List.append, List.cons_append, List.nil_append, List.append_assoc, List.map_cons, List.map_nil, convS, fldA, nthT, idxA, idxS, fldS, oslN, bnd, slS, unS, valI, lenS, lookS, takeC, psB, asRow, csB, Int.toNat_natCast, Int.le_refl, and_self, rdF, Ent.row, ldS, sz, szL, wrF, bldF, plT, bldS, srcS, nilS, nilEq, mapC, binH, binS2, structS, eqL, eqF, binS, arrS, isI, tupS, stor, storL, Value.oneCell', minS, maxS, capS, true_and, and_true, Nat.reduceAdd, Nat.reduceSub, Nat.reduceMul, Nat.reduceLT, Nat.reduceLeDiff, Nat.reduceEqDiff, Nat.reduceBEq, Int.reduceToNat, Int.reduceNeg, Nat.zero_add, Nat.add_zero, Nat.sub_self, Nat.sub_zero, Nat.zero_mul, Nat.mul_one, Nat.zero_le, if_true, if_false, reduceIte, stays, inL, same1, qn, ldN, convN, lenN, List.mem_cons, List.not_mem_nil, Option.map_some, Option.map_none, cond_true, cond_false, Sx.imp_true, Sx.imp_false, implies_true, Int.reduceEq, Int.reduceNe, Int.reduceLE, Int.reduceLT, decide_true, decide_false, List.zipIdx_cons, List.zipIdx_nil, or_false, false_or, forall_eq_or_imp, forall_eq, ne_eq, reduceCtorEq, not_false_eq_true, Bool.false_eq_true, Bool.true_eq_false, Bool.not_true, Bool.not_false, notInt, numB, tabB, ↓vyB, ↓opY, roA, liveA, lvB, frz, frz1, true_or, Array.reduceGetElem?, upG, up, nth, lay, rcB, rnm, rnmL, wrB, pcB, res114]
      have hlen : (p.reverse.map ks).length = p.length := by simp
      refine intoR_mk [some 1] (.osl 0 0 0 1 (p.reverse.map ks).length) [.row true (p.reverse.map ks).length 1 fun i => .int .i64 ((p.reverse.map ks).getD i default)] ?_ ?_ ?_ ?_ ?_ ?_ ?_ ⟨p.reverse.map ks, ((List.reverse_perm p).trans (hp.perm hl)).map ks, rfl, rfl⟩
      · simp [slot, lkL, fixed, rg, renH, chEq, lookH, eqvL, eqv, eqvF, rnmL, rnm, liveN, Chunk.live, goodH, Chunk.good, okL, ok, sz, szL, storL, stor, renT, okT]
      · simp [slot, lkL, fixed, rg, renH, chEq, lookH, eqvL, eqv, eqvF, rnmL, rnm, liveN, Chunk.live, goodH, Chunk.good, okL, ok, sz, szL, storL, stor, renT, okT]
      · simp [slot, lkL, fixed, rg, renH, chEq, lookH, eqvL, eqv, eqvF, rnmL, rnm, liveN, Chunk.live, goodH, Chunk.good, okL, ok, sz, szL, storL, stor, renT, okT]
        intro i hi
        simp [eqv, List.getElem?_reverse, hi]
      · simp [slot, lkL, fixed, rg, renH, chEq, lookH, eqvL, eqv, eqvF, rnmL, rnm, liveN, Chunk.live, goodH, Chunk.good, okL, ok, sz, szL, storL, stor, renT, okT]
      · simp [slot, lkL, fixed, rg, renH, chEq, lookH, eqvL, eqv, eqvF, rnmL, rnm, liveN, Chunk.live, goodH, Chunk.good, okL, ok, sz, szL, storL, stor, renT, okT]
      · simp [slot, lkL, fixed, rg, renH, chEq, lookH, eqvL, eqv, eqvF, rnmL, rnm, liveN, Chunk.live, goodH, Chunk.good, okL, ok, sz, szL, storL, stor, renT, okT]
      · simp [slot, lkL, fixed, rg, renH, chEq, lookH, eqvL, eqv, eqvF, rnmL, rnm, liveN, Chunk.live, goodH, Chunk.good, okL, ok, sz, szL, storL, stor, renT, okT]
  · rintro i g e h' _ he
    exact he.elim
theorem c102k (f : FuncId) (lb : List Value) (n : Nat) (hn : n ≤ 1000) (ks : Nat → Int) : callP (seqRPr Try.prog f lb (keyR n fun j => den (fun _ => ⟨0, 0, 0, true⟩) (.int .i64 (ks j))) (keyF n)) 102 [.v (.func (.func f) #[] ⟨lb⟩)] [] (fun _ v h' => ∃ zs : List Int, zs.Perm ((List.range n).map ks) ∧ v = .osl 0 0 0 1 zs.length ∧ h' = [.row true zs.length 1 fun i => .int .i64 (zs.getD i default)]) := by
  refine callP_of_code (P := (seqRPr Try.prog f lb (keyR n fun j => den (fun _ => ⟨0, 0, 0, true⟩) (.int .i64 (ks j))) (keyF n))) tabOk Try.func102 (by kernel_rfl) rfl (Nat.le_of_ble_eq_true rfl) (codeP_of_vc (pl := np) tabOk follows_mixed (by kernel_rfl) ?_)
  rw [Try.ntmps102]
  simp -implicitDefEqProofs (maxSteps := 1000000) (disch := omega) only [↓vcB, ↓gd, ↓opP, ↓qv, ↓ef, ↓bslS, ↓stS, ↓mkS, ↓rangeS, ↓nextS, ↓entryS, ↓delS, ↓mupS, ↓appS, ↓s2bS, ↓resS, evB, Sx.look, slot, ↓lkL, putS, putO, argsL, ↓reduceIte, ofV, of1, lookH, putH, List.length_cons, List.length_nil, List.length_append, List.replicate, List.append, List.cons_append, List.nil_append, List.append_assoc, List.map_cons, List.map_nil, convS, fldA, nthT, idxA, idxS, fldS, oslN, bnd, slS, unS, valI, lenS, lookS, takeC, psB, asRow, csB, Int.toNat_natCast, Int.le_refl, and_self, rdF, Ent.row, ldS, sz, szL, wrF, bldF, plT, bldS, srcS, nilS, nilEq, mapC, binH, binS2, structS, eqL, eqF, binS, arrS, isI, tupS, stor, storL, Value.oneCell', minS, maxS, capS, true_and, and_true, Nat.reduceAdd, Nat.reduceSub, Nat.reduceMul, Nat.reduceLT, Nat.reduceLeDiff, Nat.reduceEqDiff, Nat.reduceBEq, Int.reduceToNat, Int.reduceNeg, Nat.zero_add, Nat.add_zero, Nat.sub_self, Nat.sub_zero, Nat.zero_mul, Nat.mul_one, Nat.zero_le, if_true, if_false, reduceIte, stays, inL, same1, qn, ldN, convN, lenN, List.mem_cons, List.not_mem_nil, Option.map_some, Option.map_none, cond_true, cond_false, Sx.imp_true, Sx.imp_false, implies_true, Int.reduceEq, Int.reduceNe, Int.reduceLE, Int.reduceLT, decide_true, decide_false, List.zipIdx_cons, List.zipIdx_nil, or_false, false_or, forall_eq_or_imp, forall_eq, ne_eq, reduceCtorEq, not_false_eq_true, Bool.false_eq_true, Bool.true_eq_false, Bool.not_true, Bool.not_false, notInt, numB, tabB, Array.reduceGetElem?, upG, up, nth, lay, rcB, rnm, rnmL, wrB, pcB, res102]
  refine callP_mono (c114k f lb n hn ks) ?_
  rintro v h' ⟨zs, hz, rfl, rfl⟩
  simp -implicitDefEqProofs (maxSteps := 1000000) (disch := omega) only [↓vcB, ↓gd, ↓opP, ↓qv, ↓ef, ↓bslS, ↓stS, ↓mkS, ↓rangeS, ↓nextS, ↓entryS, ↓delS, ↓mupS, ↓appS, ↓s2bS, ↓resS, evB, Sx.look, slot, ↓lkL, putS, putO, argsL, ↓reduceIte, ofV, of1, lookH, putH, List.length_cons, List.length_nil, List.length_append, List.replicate, List.append, List.cons_append, List.nil_append, List.append_assoc, List.map_cons, List.map_nil, convS, fldA, nthT, idxA, idxS, fldS, oslN, bnd, slS, unS, valI, lenS, lookS, takeC, psB, asRow, csB, Int.toNat_natCast, Int.le_refl, and_self, rdF, Ent.row, ldS, sz, szL, wrF, bldF, plT, bldS, srcS, nilS, nilEq, mapC, binH, binS2, structS, eqL, eqF, binS, arrS, isI, tupS, stor, storL, Value.oneCell', minS, maxS, capS, true_and, and_true, Nat.reduceAdd, Nat.reduceSub, Nat.reduceMul, Nat.reduceLT, Nat.reduceLeDiff, Nat.reduceEqDiff, Nat.reduceBEq, Int.reduceToNat, Int.reduceNeg, Nat.zero_add, Nat.add_zero, Nat.sub_self, Nat.sub_zero, Nat.zero_mul, Nat.mul_one, Nat.zero_le, if_true, if_false, reduceIte, stays, inL, same1, qn, ldN, convN, lenN, List.mem_cons, List.not_mem_nil, Option.map_some, Option.map_none, cond_true, cond_false, Sx.imp_true, Sx.imp_false, implies_true, Int.reduceEq, Int.reduceNe, Int.reduceLE, Int.reduceLT, decide_true, decide_false, List.zipIdx_cons, List.zipIdx_nil, or_false, false_or, forall_eq_or_imp, forall_eq, ne_eq, reduceCtorEq, not_false_eq_true, Bool.false_eq_true, Bool.true_eq_false, Bool.not_true, Bool.not_false, notInt, numB, tabB, Array.reduceGetElem?, upG, up, nth, lay, rcB, rnm, rnmL, wrB, pcB, res102]
  exact intoR_refl (Nat.zero_le _) ⟨zs, hz, rfl, rfl⟩
section
variable {P : Pr} (hP : P.p = Try.prog)
include hP
/-- slices.Collect, of keys in a heap. -/
theorem c102 {qs : List Nat} {h : List Chunk} {sv : SV} {n : Nat} (hn : n ≤ 1000) {ks : Nat → Int} (hs : SeqR P qs h sv (keyR n fun j => den (fun _ => ⟨0, 0, 0, true⟩) (.int .i64 (ks j))) (keyF n)) (K : Tok → SV → List Chunk → Prop)
    (hK : ∀ zs : List Int, zs.Perm ((List.range n).map ks) → K .mk (.osl h.length 0 0 1 zs.length) (h ++ [.row true zs.length 1 fun i => .int .i64 (zs.getD i default)])) : callP P 102 [sv] h K := by
  refine callP_open (KL := (fun _ v h' => ∃ zs : List Int, zs.Perm ((List.range n).map ks) ∧ v = .osl 0 0 0 1 zs.length ∧ h' = [.row true zs.length 1 fun i => .int .i64 (zs.getD i default)])) (fun C ρ w hk hMo => ?_) ?_
  · obtain ⟨f, lb, B, hd, hg, _⟩ := hs ρ w (fun b => C.X b ∨ C.w0.heap.size ≤ b) (P.keep hk hMo.keep fun b hb => hb) fun k hkq => ⟨lookH_holds hMo k, fun hR => hMo.size k _ (lookH_some rfl (by intro e; rw [e] at hR; cases hR.1)) hR⟩
    rw [hP] at hg
    have hd' : ∀ ρ', denL ρ [sv] = denL ρ' [.v (.func (.func f) #[] ⟨lb⟩)] := fun ρ' => by simp only [denL, hd, den]
    exact ⟨(seqRPr Try.prog f lb (keyR n fun j => den (fun _ => ⟨0, 0, 0, true⟩) (.int .i64 (ks j))) (keyF n)), [.v (.func (.func f) #[] ⟨lb⟩)], hP.symm, ⟨B, fun _ _ h => h, hg⟩, ⟨trivial, trivial⟩, hd', c102k f lb n hn ks⟩
  · rintro v hl' ⟨zs, hz, rfl, rfl⟩
    refine ⟨by simp [Chunk.wr], ?_⟩
    have e1 : rnm (upG [] h.length) (.osl 0 0 0 1 zs.length) = .osl h.length 0 0 1 zs.length := by simp [rnm, upG, up, nth]
    have e2 : [Chunk.row true zs.length 1 fun i => .int .i64 (zs.getD i default)].map (rnmC (upG [] h.length)) = [Chunk.row true zs.length 1 fun i => .int .i64 (zs.getD i default)] := by simp [rnmC, rnm, ]
    rw [e1, e2]
    exact hK zs hz
end
/-- slices.Sorted, of keys. -/
theorem c86 {qs : List Nat} {h : List Chunk} {sv : SV} {n : Nat} (hn : n ≤ 1000) {ks : Nat → Int} (hs : SeqR (Pr.of Try.prog) qs h sv (keyR n fun j => den (fun _ => ⟨0, 0, 0, true⟩) (.int .i64 (ks j))) (keyF n)) (S : List Int) (hS : S = ((List.range n).map ks).mergeSort fun x y => decide (x ≤ y)) (K : Tok → SV → List Chunk → Prop)
    (hK : K .mk (.osl h.length 0 0 1 S.length) (h ++ [.row true S.length 1 fun i => .int .i64 (S.getD i default)])) : callP Try.prog 86 [sv] h K := by
  refine callP_of_code tabOk Try.func86 (by kernel_rfl) rfl (Nat.le_of_ble_eq_true rfl) (codeP_of_vc (pl := np) tabOk follows_mixed (by kernel_rfl) ?_)
  rw [Try.ntmps86]
  simp -implicitDefEqProofs (maxSteps := 1000000) (disch := omega) only [↓vcB, ↓gd, ↓opP, ↓qv, ↓ef, ↓bslS, ↓stS, ↓mkS, ↓rangeS, ↓nextS, ↓entryS, ↓delS, ↓mupS, ↓appS, ↓s2bS, ↓resS, evB, Sx.look, slot, ↓lkL, putS, putO, argsL, ↓reduceIte, ofV, of1, lookH, putH, List.length_cons, List.length_nil, List.length_append, List.replicate, List.append, List.cons_append, List.nil_append, List.append_assoc, List.map_cons, List.map_nil, convS, fldA, nthT, idxA, idxS, fldS, oslN, bnd, slS, unS, valI, lenS, lookS, takeC, psB, asRow, csB, Int.toNat_natCast, Int.le_refl, and_self, rdF, Ent.row, ldS, sz, szL, wrF, bldF, plT, bldS, srcS, nilS, nilEq, mapC, binH, binS2, structS, eqL, eqF, binS, arrS, isI, tupS, stor, storL, Value.oneCell', minS, maxS, capS, true_and, and_true, Nat.reduceAdd, Nat.reduceSub, Nat.reduceMul, Nat.reduceLT, Nat.reduceLeDiff, Nat.reduceEqDiff, Nat.reduceBEq, Int.reduceToNat, Int.reduceNeg, Nat.zero_add, Nat.add_zero, Nat.sub_self, Nat.sub_zero, Nat.zero_mul, Nat.mul_one, Nat.zero_le, if_true, if_false, reduceIte, stays, inL, same1, qn, ldN, convN, lenN, List.mem_cons, List.not_mem_nil, Option.map_some, Option.map_none, cond_true, cond_false, Sx.imp_true, Sx.imp_false, implies_true, Int.reduceEq, Int.reduceNe, Int.reduceLE, Int.reduceLT, decide_true, decide_false, List.zipIdx_cons, List.zipIdx_nil, or_false, false_or, forall_eq_or_imp, forall_eq, ne_eq, reduceCtorEq, not_false_eq_true, Bool.false_eq_true, Bool.true_eq_false, Bool.not_true, Bool.not_false, notInt, numB, tabB, Array.reduceGetElem?, upG, up, nth, lay, rcB, rnm, rnmL, wrB, pcB, res86]
  refine c102 rfl hn hs _ fun zs hz => ?_
  have hS2 : (zs.mergeSort fun x y => decide (x ≤ y)) = S := by rw [hS]; exact sortI_perm hz
  have hl : S.length = zs.length := by rw [← hS2, List.length_mergeSort]
  have hzl : zs.length = n := by rw [hz.length_eq]; simp
  rw [hl] at hK
  simp -implicitDefEqProofs (maxSteps := 1000000) (disch := omega) only [↓vcB, ↓gd, ↓opP, ↓qv, ↓ef, ↓bslS, ↓stS, ↓mkS, ↓rangeS, ↓nextS, ↓entryS, ↓delS, ↓mupS, ↓appS, ↓s2bS, ↓resS, evB, Sx.look, slot, ↓lkL, putS, putO, argsL, ↓reduceIte, ofV, of1, lookH, putH, List.length_cons, List.length_nil, List.length_append, List.replicate, List.append, List.cons_append, List.nil_append, List.append_assoc, List.map_cons, List.map_nil, convS, fldA, nthT, idxA, idxS, fldS, oslN, bnd, slS, unS, valI, lenS, lookS, takeC, psB, asRow, csB, Int.toNat_natCast, Int.le_refl, and_self, rdF, Ent.row, ldS, sz, szL, wrF, bldF, plT, bldS, srcS, nilS, nilEq, mapC, binH, binS2, structS, eqL, eqF, binS, arrS, isI, tupS, stor, storL, Value.oneCell', minS, maxS, capS, true_and, and_true, Nat.reduceAdd, Nat.reduceSub, Nat.reduceMul, Nat.reduceLT, Nat.reduceLeDiff, Nat.reduceEqDiff, Nat.reduceBEq, Int.reduceToNat, Int.reduceNeg, Nat.zero_add, Nat.add_zero, Nat.sub_self, Nat.sub_zero, Nat.zero_mul, Nat.mul_one, Nat.zero_le, if_true, if_false, reduceIte, stays, inL, same1, qn, ldN, convN, lenN, List.mem_cons, List.not_mem_nil, Option.map_some, Option.map_none, cond_true, cond_false, Sx.imp_true, Sx.imp_false, implies_true, Int.reduceEq, Int.reduceNe, Int.reduceLE, Int.reduceLT, decide_true, decide_false, List.zipIdx_cons, List.zipIdx_nil, or_false, false_or, forall_eq_or_imp, forall_eq, ne_eq, reduceCtorEq, not_false_eq_true, Bool.false_eq_true, Bool.true_eq_false, Bool.not_true, Bool.not_false, notInt, numB, tabB, Array.reduceGetElem?, upG, up, nth, lay, rcB, rnm, rnmL, wrB, pcB, res86]
  refine c103 rfl zs (by rw [lookH_app0]; rfl) (by omega) (fun h0 => ?_) (fun h0 => ?_)
  · have hS0 : S = [] := by rw [← hS2, h0]; simp
    rw [hS0] at hK
    rw [h0] at hK ⊢
    simp -implicitDefEqProofs (maxSteps := 1000000) (disch := omega) only [↓vcB, ↓gd, ↓opP, ↓qv, ↓ef, ↓bslS, ↓stS, ↓mkS, ↓rangeS, ↓nextS, ↓entryS, ↓delS, ↓mupS, ↓appS, ↓s2bS, ↓resS, evB, Sx.look, slot, ↓lkL, putS, putO, argsL, ↓reduceIte, ofV, of1, lookH, putH, List.length_cons, List.length_nil, List.length_append, List.replicate, List.append, List.cons_append, List.nil_append, List.append_assoc, List.map_cons, List.map_nil, convS, fldA, nthT, idxA, idxS, fldS, oslN, bnd, slS, unS, valI, lenS, lookS, takeC, psB, asRow, csB, Int.toNat_natCast, Int.le_refl, and_self, rdF, Ent.row, ldS, sz, szL, wrF, bldF, plT, bldS, srcS, nilS, nilEq, mapC, binH, binS2, structS, eqL, eqF, binS, arrS, isI, tupS, stor, storL, Value.oneCell', minS, maxS, capS, true_and, and_true, Nat.reduceAdd, Nat.reduceSub, Nat.reduceMul, Nat.reduceLT, Nat.reduceLeDiff, Nat.reduceEqDiff, Nat.reduceBEq, Int.reduceToNat, Int.reduceNeg, Nat.zero_add, Nat.add_zero, Nat.sub_self, Nat.sub_zero, Nat.zero_mul, Nat.mul_one, Nat.zero_le, if_true, if_false, reduceIte, stays, inL, same1, qn, ldN, convN, lenN, List.mem_cons, List.not_mem_nil, Option.map_some, Option.map_none, cond_true, cond_false, Sx.imp_true, Sx.imp_false, implies_true, Int.reduceEq, Int.reduceNe, Int.reduceLE, Int.reduceLT, decide_true, decide_false, List.zipIdx_cons, List.zipIdx_nil, or_false, false_or, forall_eq_or_imp, forall_eq, ne_eq, reduceCtorEq, not_false_eq_true, Bool.false_eq_true, Bool.true_eq_false, Bool.not_true, Bool.not_false, notInt, numB, tabB, Array.reduceGetElem?, upG, up, nth, lay, rcB, rnm, rnmL, wrB, pcB, res86]
    exact intoR_refl (by simp) hK
  · rw [putH_app0, hS2]
    simp -implicitDefEqProofs (maxSteps := 1000000) (disch := omega) only [↓vcB, ↓gd, ↓opP, ↓qv, ↓ef, ↓bslS, ↓stS, ↓mkS, ↓rangeS, ↓nextS, ↓entryS, ↓delS, ↓mupS, ↓appS, ↓s2bS, ↓resS, evB, Sx.look, slot, ↓lkL, putS, putO, argsL, ↓reduceIte, ofV, of1, lookH, putH, List.length_cons, List.length_nil, List.length_append, List.replicate, List.append, List.cons_append, List.nil_append, List.append_assoc, List.map_cons, List.map_nil, convS, fldA, nthT, idxA, idxS, fldS, oslN, bnd, slS, unS, valI, lenS, lookS, takeC, psB, asRow, csB, Int.toNat_natCast, Int.le_refl, and_self, rdF, Ent.row, ldS, sz, szL, wrF, bldF, plT, bldS, srcS, nilS, nilEq, mapC, binH, binS2, structS, eqL, eqF, binS, arrS, isI, tupS, stor, storL, Value.oneCell', minS, maxS, capS, true_and, and_true, Nat.reduceAdd, Nat.reduceSub, Nat.reduceMul, Nat.reduceLT, Nat.reduceLeDiff, Nat.reduceEqDiff, Nat.reduceBEq, Int.reduceToNat, Int.reduceNeg, Nat.zero_add, Nat.add_zero, Nat.sub_self, Nat.sub_zero, Nat.zero_mul, Nat.mul_one, Nat.zero_le, if_true, if_false, reduceIte, stays, inL, same1, qn, ldN, convN, lenN, List.mem_cons, List.not_mem_nil, Option.map_some, Option.map_none, cond_true, cond_false, Sx.imp_true, Sx.imp_false, implies_true, Int.reduceEq, Int.reduceNe, Int.reduceLE, Int.reduceLT, decide_true, decide_false, List.zipIdx_cons, List.zipIdx_nil, or_false, false_or, forall_eq_or_imp, forall_eq, ne_eq, reduceCtorEq, not_false_eq_true, Bool.false_eq_true, Bool.true_eq_false, Bool.not_true, Bool.not_false, notInt, numB, tabB, Array.reduceGetElem?, upG, up, nth, lay, rcB, rnm, rnmL, wrB, pcB, res86]
    exact intoR_refl (by simp) hK
end Go.Proofs.Ytloinbebkhcndaa

set_option linter.all false
set_option maxRecDepth 40000
namespace Go.Proofs.Ytloinbebkhcndaa
open Go Go.Sx

def SeqT (P : Pr) (qs : List Nat) (h : List Chunk) (sv : SV) (L : List (List UInt8)) : Prop := SeqS P qs h sv L.length fun i => .string ⟨⟨L.getD i default⟩⟩
theorem res89 : Try.f89.results.toList = [.tmp 2] := rfl
theorem res107 : Try.f107.results.toList = [] := rfl
theorem res106 : Try.f106.results.toList = [] := rfl
theorem res105 : Try.f105.results.toList = [] := rfl
def pl105 : Nat → Plan := fun _ => .nil

theorem c89 (f : FuncId) (lb : List Value) (h : List Chunk) (K : Tok → SV → List Chunk → Prop) (hK : K .mk (.v (.func (.func f) #[] ⟨lb⟩)) h) : callP Try.prog 89 [.v (.func (.func f) #[] ⟨lb⟩)] h K := by
  refine callP_of_code tabOk Try.func89 (by kernel_rfl) rfl (Nat.le_of_ble_eq_true rfl) (codeP_of_vc (pl := np) tabOk follows_mixed (by kernel_rfl) ?_)
  rw [Try.ntmps89]
  simp -implicitDefEqProofs (maxSteps := 1000000) (disch := omega) only [↓vcB, ↓gd, ↓opP, ↓qv, ↓ef, ↓bslS, ↓stS, ↓mkS, ↓rangeS, ↓nextS, ↓entryS, ↓delS, ↓mupS, ↓appS, ↓s2bS, ↓resS, evB, Sx.look, slot, ↓lkL, putS, putO, argsL, ↓reduceIte, ofV, of1, lookH, putH, List.length_cons, List.length_nil, List.length_append, List.replicate, List.append, List.cons_append, List.nil_append, List.append_assoc, List.map_cons, List.map_nil, convS, fldA, nthT, idxA, idxS, fldS, oslN, bnd, slS, unS, valI, lenS, lookS, takeC, psB, asRow, csB, Int.toNat_natCast, Int.le_refl, and_self, rdF, Ent.row, ldS, sz, szL, wrF, bldF, plT, bldS, srcS, nilS, nilEq, mapC, binH, binS2, structS, eqL, eqF, binS, arrS, isI, tupS, stor, storL, Value.oneCell', minS, maxS, capS, true_and, and_true, Nat.reduceAdd, Nat.reduceSub, Nat.reduceMul, Nat.reduceLT, Nat.reduceLeDiff, Nat.reduceEqDiff, Nat.reduceBEq, Int.reduceToNat, Int.reduceNeg, Nat.zero_add, Nat.add_zero, Nat.sub_self, Nat.sub_zero, Nat.zero_mul, Nat.mul_one, Nat.zero_le, if_true, if_false, reduceIte, stays, inL, same1, qn, ldN, convN, lenN, List.mem_cons, List.not_mem_nil, Option.map_some, Option.map_none, cond_true, cond_false, Sx.imp_true, Sx.imp_false, implies_true, Int.reduceEq, Int.reduceNe, Int.reduceLE, Int.reduceLT, decide_true, decide_false, List.zipIdx_cons, List.zipIdx_nil, or_false, false_or, forall_eq_or_imp, forall_eq, ne_eq, reduceCtorEq, not_false_eq_true, Bool.false_eq_true, Bool.true_eq_false, Bool.not_true, Bool.not_false, notInt, numB, tabB, Array.reduceGetElem?, upG, up, nth, lay, rcB, rnm, rnmL, wrB, pcB, res89]
  exact intoR_refl (Nat.le_refl _) hK
theorem gives106 (xs : Nat → Value) {B : Nat → Prop} {w0 : World} (hB : ∀ b, B b → b < w0.heap.size) : Gives Try.prog 106 [] B 0 xs w0 := by
  refine gives_of_codeY (P := Pr.of Try.prog) tabOk Try.func106 (by kernel_rfl) rfl res106 (caps := []) (h0 := []) (ρ := fun _ => ⟨0, 0, 0, true⟩) (Nat.le_of_ble_eq_true rfl) trivial trivial (by simp) (fun l => ?_) hB (by simp) (fun _ _ _ => trivial) (fv := .nilFunc) (fx := fun _ => none) (nofx _)
  refine codeY_of_vc (pl := np) tabOk follows_mixed (by kernel_rfl) ?_
  rw [Try.ntmps106]
  simp -implicitDefEqProofs (maxSteps := 1000000) (disch := omega) only [↓vcB, ↓gd, ↓opP, ↓qv, ↓ef, ↓bslS, ↓stS, ↓mkS, ↓rangeS, ↓nextS, ↓entryS, ↓delS, ↓mupS, ↓appS, ↓s2bS, ↓resS, evB, Sx.look, slot, ↓lkL, putS, putO, argsL, ↓reduceIte, ofV, of1, lookH, putH, List.length_cons, List.length_nil, List.length_append, List.replicate, List.append, List.cons_append, List.nil_append, List.append_assoc, List.map_cons, List.map_nil, convS, fldA, nthT, idxA, idxS, fldS, oslN, bnd, slS, unS, valI, lenS, lookS, takeC, psB, asRow, csB, Int.toNat_natCast, Int.le_refl, and_self, rdF, Ent.row, ldS, sz, szL, wrF, bldF, plT, bldS, srcS, nilS, nilEq, mapC, binH, binS2, structS, eqL, eqF, binS, arrS, isI, tupS, stor, storL, Value.oneCell', minS, maxS, capS, true_and, and_true, Nat.reduceAdd, Nat.reduceSub, Nat.reduceMul, Nat.reduceLT, Nat.reduceLeDiff, Nat.reduceEqDiff, Nat.reduceBEq, Int.reduceToNat, Int.reduceNeg, Nat.zero_add, Nat.add_zero, Nat.sub_self, Nat.sub_zero, Nat.zero_mul, Nat.mul_one, Nat.zero_le, if_true, if_false, reduceIte, stays, inL, same1, qn, ldN, convN, lenN, List.mem_cons, List.not_mem_nil, Option.map_some, Option.map_none, cond_true, cond_false, Sx.imp_true, Sx.imp_false, implies_true, Int.reduceEq, Int.reduceNe, Int.reduceLE, Int.reduceLT, decide_true, decide_false, List.zipIdx_cons, List.zipIdx_nil, or_false, false_or, forall_eq_or_imp, forall_eq, ne_eq, reduceCtorEq, not_false_eq_true, Bool.false_eq_true, Bool.true_eq_false, Bool.not_true, Bool.not_false, notInt, numB, tabB, ↓vyB, ↓opY, roA, liveA, lvB, frz, frz1, true_or, Array.reduceGetElem?, upG, up, nth, lay, rcB, rnm, rnmL, wrB, pcB]
  exact endsG_run rfl

theorem gives107 (n : Nat) (hn : n ≤ 9223372036854775807) (A : Nat → List UInt8) {ρ : Env} {B : Nat → Prop} {w0 : World} (hB : ∀ b, B b → b < w0.heap.size) (hH : ∀ k c, [Chunk.cells false [.osl 1 0 0 1 n], .row false n 1 fun i => .str ⟨⟨A i⟩⟩][k]? = some c → Holds ρ w0 k c ∧ (Real ρ k c → B (ρ k).b)) :
    Gives Try.prog 107 (denL ρ [.ptr 0 0]) B n (fun i => .string ⟨⟨A i⟩⟩) w0 := by
  refine gives_of_codeY (P := Pr.of Try.prog) tabOk Try.func107 (by kernel_rfl) rfl res107 (Nat.le_of_ble_eq_true rfl) (by simp [slot, lkL, fixed, rg, renH, chB, lookH, eqvL, eqv, eqvF, rnmL, rnm, liveN, lvB, goodH, gdB, okL, ok, sz, szL, storL, stor, renT, okT, pcB]) (by simp [okL, ok]) (by simp [Chunk.wr]) (fun l => ?_) hB hH (fun _ _ _ => trivial) (fv := .nilFunc) (fx := fun _ => none) (nofx _)
  refine codeY_of_vc (pl := np) tabOk follows_mixed (by kernel_rfl) ?_
  rw [Try.ntmps107]
  simp -implicitDefEqProofs (maxSteps := 1000000) (disch := omega) only [↓vcB, ↓gd, ↓opP, ↓qv, ↓ef, ↓bslS, ↓stS, ↓mkS, ↓rangeS, ↓nextS, ↓entryS, ↓delS, ↓mupS, ↓appS, ↓s2bS, ↓resS, evB, Sx.look, slot, ↓lkL, putS, putO, argsL, ↓reduceIte, ofV, of1, lookH, putH, List.length_cons, List.length_nil, List.length_append, List.replicate, List.append, List.cons_append, List.nil_append, List.append_assoc, List.map_cons, List.map_nil, convS, fldA, nthT, idxA, idxS, fldS, oslN, bnd, slS, unS, valI, lenS, lookS, takeC, psB, asRow, csB, Int.toNat_natCast, Int.le_refl, and_self, rdF, Ent.row, ldS, sz, szL, wrF, bldF, plT, bldS, srcS, nilS, nilEq, mapC, binH, binS2, structS, eqL, eqF, binS, arrS, isI, tupS, stor, storL, Value.oneCell', minS, maxS, capS, true_and, and_true, Nat.reduceAdd, Nat.reduceSub, Nat.reduceMul, Nat.reduceLT, Nat.reduceLeDiff, Nat.reduceEqDiff, Nat.reduceBEq, Int.reduceToNat, Int.reduceNeg, Nat.zero_add, Nat.add_zero, Nat.sub_self, Nat.sub_zero, Nat.zero_mul, Nat.mul_one, Nat.zero_le, if_true, if_false, reduceIte, stays, inL, same1, qn, ldN, convN, lenN, List.mem_cons, List.not_mem_nil, Option.map_some, Option.map_none, cond_true, cond_false, Sx.imp_true, Sx.imp_false, implies_true, Int.reduceEq, Int.reduceNe, Int.reduceLE, Int.reduceLT, decide_true, decide_false, List.zipIdx_cons, List.zipIdx_nil, or_false, false_or, forall_eq_or_imp, forall_eq, ne_eq, reduceCtorEq, not_false_eq_true, Bool.false_eq_true, Bool.true_eq_false, Bool.not_true, Bool.not_false, notInt, numB, tabB, ↓vyB, ↓opY, roA, liveA, lvB, frz, frz1, true_or, Array.reduceGetElem?, upG, up, nth, lay, rcB, rnm, rnmL, wrB, pcB]
  refine codeY_loop (pl := np) tabOk follows_mixed (by kernel_rfl) (fun m g t h => ∃ (k : Nat) (j : Nat → Value), k + m = n ∧ g = .run k ∧ t = ⟨16, [(0, .v (.func (.yield l) #[] #[])), (5, .osl 1 0 0 1 n), (6, .int .i64 (n : Nat)), (7, .int .i64 (k : Nat))], j⟩ ∧ h = [Chunk.cells false [.osl 1 0 0 1 n], .row false n 1 fun i => .str ⟨⟨A i⟩⟩]) ?_ ?_
  · intro d
    refine into_mk [some 0, some 1] [(0, .v (.func (.yield l) #[] #[])), (5, .osl 1 0 0 1 n), (6, .int .i64 (n : Nat)), (7, .int .i64 (0 : Nat))] [Chunk.cells false [.osl 1 0 0 1 n], .row false n 1 fun i => .str ⟨⟨A i⟩⟩] ?_ ?_ ?_ ?_ ?_ ?_ ?_ ?_
    · simp [slot, lkL, fixed, rg, renH, chEq, lookH, eqvL, eqv, eqvF, rnmL, rnm, liveN, Chunk.live, goodH, Chunk.good, okL, ok, sz, szL, storL, stor, renT, okT]
    · simp [slot, lkL, fixed, rg, renH, chEq, lookH, eqvL, eqv, eqvF, rnmL, rnm, liveN, Chunk.live, goodH, Chunk.good, okL, ok, sz, szL, storL, stor, renT, okT]
    · simp [slot, lkL, fixed, rg, renH, chEq, lookH, eqvL, eqv, eqvF, rnmL, rnm, liveN, Chunk.live, goodH, Chunk.good, okL, ok, sz, szL, storL, stor, renT, okT]
    · simp [slot, lkL, fixed, rg, renH, chEq, lookH, eqvL, eqv, eqvF, rnmL, rnm, liveN, Chunk.live, goodH, Chunk.good, okL, ok, sz, szL, storL, stor, renT, okT]
    · simp [slot, lkL, fixed, rg, renH, chB, lookH, eqvL, eqv, eqvF, rnmL, rnm, liveN, lvB, goodH, gdB, okL, ok, sz, szL, storL, stor, renT, okT, pcB]
    · simp [slot, lkL, fixed, rg, renH, chEq, lookH, eqvL, eqv, eqvF, rnmL, rnm, liveN, Chunk.live, goodH, Chunk.good, okL, ok, sz, szL, storL, stor, renT, okT]
    · simp [slot, lkL, fixed, rg, renH, chEq, lookH, eqvL, eqv, eqvF, rnmL, rnm, liveN, Chunk.live, goodH, Chunk.good, okL, ok, sz, szL, storL, stor, renT, okT]
    · exact fun j => ⟨rfl, n, 0, j, by omega, rfl, rfl, rfl⟩
  · rintro m g t h ⟨k, j, hk, rfl, rfl, rfl⟩
    by_cases hlt : k < n
    · have g0 : decide ((k : Int) < n) = true := decide_eq_true (by omega)
      have a0 : IntKind.i64.wrap ((k : Int) + 1) = ((k + 1 : Nat) : Int) := by rw [wrap64 (by omega) (by omega)]; omega
      simp -implicitDefEqProofs (maxSteps := 1000000) (disch := omega) only [↓vcB, ↓gd, ↓opP, ↓qv, ↓ef, ↓bslS, ↓stS, ↓mkS, ↓rangeS, ↓nextS, ↓entryS, ↓delS, ↓mupS, ↓appS, ↓s2bS, ↓resS, evB, Sx.look, slot, ↓lkL, putS, putO, argsL, ↓reduceIte, ofV, of1, lookH, putH, List.length_cons, List.length_nil, List.length_append, List.replicate, List.append, List.cons_append, List.nil_append, List.append_assoc, List.map_cons, List.map_nil, convS, fldA, nthT, idxA, idxS, fldS, oslN, bnd, slS, unS, valI, lenS, lookS, takeC, psB, asRow, csB, Int.toNat_natCast, Int.le_refl, and_self, rdF, Ent.row, ldS, sz, szL, wrF, bldF, plT, bldS, srcS, nilS, nilEq, mapC, binH, binS2, structS, eqL, eqF, binS, arrS, isI, tupS, stor, storL, Value.oneCell', minS, maxS, capS, true_and, and_true, Nat.reduceAdd, Nat.reduceSub, Nat.reduceMul, Nat.reduceLT, Nat.reduceLeDiff, Nat.reduceEqDiff, Nat.reduceBEq, Int.reduceToNat, Int.reduceNeg, Nat.zero_add, Nat.add_zero, Nat.sub_self, Nat.sub_zero, Nat.zero_mul, Nat.mul_one, Nat.zero_le, if_true, if_false, reduceIte, stays, inL, same1, qn, ldN, convN, lenN, List.mem_cons, List.not_mem_nil, Option.map_some, Option.map_none, cond_true, cond_false, Sx.imp_true, Sx.imp_false, implies_true, Int.reduceEq, Int.reduceNe, Int.reduceLE, Int.reduceLT, decide_true, decide_false, List.zipIdx_cons, List.zipIdx_nil, or_false, false_or, forall_eq_or_imp, forall_eq, ne_eq, reduceCtorEq, not_false_eq_true, Bool.false_eq_true, Bool.true_eq_false, Bool.not_true, Bool.not_false, notInt, numB, tabB, ↓vyB, ↓opY, roA, liveA, lvB, frz, frz1, true_or, Array.reduceGetElem?, upG, up, nth, lay, rcB, rnm, rnmL, wrB, pcB, g0, a0]
      refine ⟨⟨by omega, by omega, by omega⟩, by omega, ?_⟩
      refine ⟨⟨hlt, fun _ => rfl⟩, ?_, endsG_stop (by omega)⟩
      intro d
      refine into_mk [some 0, some 1] [(0, .v (.func (.yield l) #[] #[])), (5, .osl 1 0 0 1 n), (6, .int .i64 (n : Nat)), (7, .int .i64 (k + 1 : Nat))] [Chunk.cells false [.osl 1 0 0 1 n], .row false n 1 fun i => .str ⟨⟨A i⟩⟩] ?_ ?_ ?_ ?_ ?_ ?_ ?_ ?_
      · simp [slot, lkL, fixed, rg, renH, chEq, lookH, eqvL, eqv, eqvF, rnmL, rnm, liveN, Chunk.live, goodH, Chunk.good, okL, ok, sz, szL, storL, stor, renT, okT]
      · simp [slot, lkL, fixed, rg, renH, chEq, lookH, eqvL, eqv, eqvF, rnmL, rnm, liveN, Chunk.live, goodH, Chunk.good, okL, ok, sz, szL, storL, stor, renT, okT]
      · simp [slot, lkL, fixed, rg, renH, chEq, lookH, eqvL, eqv, eqvF, rnmL, rnm, liveN, Chunk.live, goodH, Chunk.good, okL, ok, sz, szL, storL, stor, renT, okT]
      · simp [slot, lkL, fixed, rg, renH, chEq, lookH, eqvL, eqv, eqvF, rnmL, rnm, liveN, Chunk.live, goodH, Chunk.good, okL, ok, sz, szL, storL, stor, renT, okT]
      · simp [slot, lkL, fixed, rg, renH, chB, lookH, eqvL, eqv, eqvF, rnmL, rnm, liveN, lvB, goodH, gdB, okL, ok, sz, szL, storL, stor, renT, okT, pcB]
      · simp [slot, lkL, fixed, rg, renH, chEq, lookH, eqvL, eqv, eqvF, rnmL, rnm, liveN, Chunk.live, goodH, Chunk.good, okL, ok, sz, szL, storL, stor, renT, okT]
      · simp [slot, lkL, fixed, rg, renH, chEq, lookH, eqvL, eqv, eqvF, rnmL, rnm, liveN, Chunk.live, goodH, Chunk.good, okL, ok, sz, szL, storL, stor, renT, okT]
      · exact fun j => ⟨rfl, m - 1, by omega, k + 1, j, by omega, rfl, rfl, rfl⟩
    · have hkn : k = n := by omega
      subst k
      have g0 : decide ((n : Int) < n) = false := decide_eq_false (by omega)
      simp -implicitDefEqProofs (maxSteps := 1000000) (disch := omega) only [↓vcB, ↓gd, ↓opP, ↓qv, ↓ef, ↓bslS, ↓stS, ↓mkS, ↓rangeS, ↓nextS, ↓entryS, ↓delS, ↓mupS, ↓appS, ↓s2bS, ↓resS, evB, Sx.look, slot, ↓lkL, putS, putO, argsL, ↓reduceIte, ofV, of1, lookH, putH, List.length_cons, List.length_nil, List.length_append, List.replicate, List.append, List.cons_append, List.nil_append, List.append_assoc, List.map_cons, List.map_nil, convS, fldA, nthT, idxA, idxS, fldS, oslN, bnd, slS, unS, valI, lenS, lookS, takeC, psB, asRow, csB, Int.toNat_natCast, Int.le_refl, and_self, rdF, Ent.row, ldS, sz, szL, wrF, bldF, plT, bldS, srcS, nilS, nilEq, mapC, binH, binS2, structS, eqL, eqF, binS, arrS, isI, tupS, stor, storL, Value.oneCell', minS, maxS, capS, true_and, and_true, Nat.reduceAdd, Nat.reduceSub, Nat.reduceMul, Nat.reduceLT, Nat.reduceLeDiff, Nat.reduceEqDiff, Nat.reduceBEq, Int.reduceToNat, Int.reduceNeg, Nat.zero_add, Nat.add_zero, Nat.sub_self, Nat.sub_zero, Nat.zero_mul, Nat.mul_one, Nat.zero_le, if_true, if_false, reduceIte, stays, inL, same1, qn, ldN, convN, lenN, List.mem_cons, List.not_mem_nil, Option.map_some, Option.map_none, cond_true, cond_false, Sx.imp_true, Sx.imp_false, implies_true, Int.reduceEq, Int.reduceNe, Int.reduceLE, Int.reduceLT, decide_true, decide_false, List.zipIdx_cons, List.zipIdx_nil, or_false, false_or, forall_eq_or_imp, forall_eq, ne_eq, reduceCtorEq, not_false_eq_true, Bool.false_eq_true, Bool.true_eq_false, Bool.not_true, Bool.not_false, notInt, numB, tabB, ↓vyB, ↓opY, roA, liveA, lvB, frz, frz1, true_or, Array.reduceGetElem?, upG, up, nth, lay, rcB, rnm, rnmL, wrB, pcB, g0]
      exact endsG_run rfl
theorem gives105 (f : FuncId) (lb : List Value) (n : Nat) (A : Nat → List UInt8) (a : Int) (ha : -9223372036854775808 ≤ a ∧ a ≤ 9223372036854775807) (N : Nat) (hN : N = min n a.toNat) {ρ : Env} {B : Nat → Prop} {w0 : World} (hB : ∀ b, B b → b < w0.heap.size) (hH : ∀ k c, [Chunk.cells false [.int .i64 a], .cells false [.v (.func (.func f) #[] ⟨lb⟩)]][k]? = some c → Holds ρ w0 k c ∧ (Real ρ k c → B (ρ k).b))
    (hs : Gives Try.prog f lb B n (fun i => .string ⟨⟨A i⟩⟩) w0) : Gives Try.prog 105 (denL ρ [.ptr 0 0, .ptr 1 0]) B N (fun i => .string ⟨⟨A i⟩⟩) w0 := by
  refine gives_of_codeY (P := seqPr Try.prog f lb n fun i => .string ⟨⟨A i⟩⟩) tabOk Try.func105 (by kernel_rfl) rfl res105 (Nat.le_of_ble_eq_true rfl) (by simp [slot, lkL, fixed, rg, renH, chB, lookH, eqvL, eqv, eqvF, rnmL, rnm, liveN, lvB, goodH, gdB, okL, ok, sz, szL, storL, stor, renT, okT, pcB, Value.oneCell']) (by simp [okL, ok]) (by simp [Chunk.wr]) (fun l => ?_) hB hH
    (fun w hw hb => ⟨B, fun b hb hx => hx.elim id fun h => h.2 hb, hs.later hw hb⟩) (fv := .nilFunc) (fx := fun _ => none) (nofx _)
  refine codeY_of_vc (pl := pl105) tabOk follows_mixed (by kernel_rfl) ?_
  rw [Try.ntmps105]
  by_cases h0 : a < 1
  · have h1 : decide (a < 1) = true := decide_eq_true h0
    simp -implicitDefEqProofs (maxSteps := 1000000) (disch := omega) only [↓vcB, ↓gd, ↓opP, ↓qv, ↓ef, ↓bslS, ↓stS, ↓mkS, ↓rangeS, ↓nextS, ↓entryS, ↓delS, ↓mupS, ↓appS, ↓s2bS, ↓resS, evB, Sx.look, slot, ↓lkL, putS, putO, argsL, ↓reduceIte, ofV, of1, lookH, putH, List.length_cons, List.length_nil, List.length_append, List.replicate, List.append, List.cons_append, List.nil_append, List.append_assoc, List.map_cons, List.map_nil, convS, fldA, nthT, idxA, idxS, fldS, oslN, bnd, slS, unS, valI, lenS, lookS, takeC, psB, asRow, csB, Int.toNat_natCast, Int.le_refl, and_self, rdF, Ent.row, ldS, sz, szL, wrF, bldF, plT, bldS, srcS, nilS, nilEq, mapC, binH, binS2, structS, eqL, eqF, binS, arrS, isI, tupS, stor, storL, Value.oneCell', minS, maxS, capS, true_and, and_true, Nat.reduceAdd, Nat.reduceSub, Nat.reduceMul, Nat.reduceLT, Nat.reduceLeDiff, Nat.reduceEqDiff, Nat.reduceBEq, Int.reduceToNat, Int.reduceNeg, Nat.zero_add, Nat.add_zero, Nat.sub_self, Nat.sub_zero, Nat.zero_mul, Nat.mul_one, Nat.zero_le, if_true, if_false, reduceIte, stays, inL, same1, qn, ldN, convN, lenN, List.mem_cons, List.not_mem_nil, Option.map_some, Option.map_none, cond_true, cond_false, Sx.imp_true, Sx.imp_false, implies_true, Int.reduceEq, Int.reduceNe, Int.reduceLE, Int.reduceLT, decide_true, decide_false, List.zipIdx_cons, List.zipIdx_nil, or_false, false_or, forall_eq_or_imp, forall_eq, ne_eq, reduceCtorEq, not_false_eq_true, Bool.false_eq_true, Bool.true_eq_false, Bool.not_true, Bool.not_false, notInt, numB, tabB, ↓vyB, ↓opY, roA, liveA, lvB, frz, frz1, true_or, Array.reduceGetElem?, upG, up, nth, lay, rcB, rnm, rnmL, wrB, pcB, h1]
    exact endsG_run (by omega)
  · have h1 : decide (a < 1) = false := decide_eq_false h0
    simp -implicitDefEqProofs (maxSteps := 1000000) (disch := omega) only [↓vcB, ↓gd, ↓opP, ↓qv, ↓ef, ↓bslS, ↓stS, ↓mkS, ↓rangeS, ↓nextS, ↓entryS, ↓delS, ↓mupS, ↓appS, ↓s2bS, ↓resS, evB, Sx.look, slot, ↓lkL, putS, putO, argsL, ↓reduceIte, ofV, of1, lookH, putH, List.length_cons, List.length_nil, List.length_append, List.replicate, List.append, List.cons_append, List.nil_append, List.append_assoc, List.map_cons, List.map_nil, convS, fldA, nthT, idxA, idxS, fldS, oslN, bnd, slS, unS, valI, lenS, lookS, takeC, psB, asRow, csB, Int.toNat_natCast, Int.le_refl, and_self, rdF, Ent.row, ldS, sz, szL, wrF, bldF, plT, bldS, srcS, nilS, nilEq, mapC, binH, binS2, structS, eqL, eqF, binS, arrS, isI, tupS, stor, storL, Value.oneCell', minS, maxS, capS, true_and, and_true, Nat.reduceAdd, Nat.reduceSub, Nat.reduceMul, Nat.reduceLT, Nat.reduceLeDiff, Nat.reduceEqDiff, Nat.reduceBEq, Int.reduceToNat, Int.reduceNeg, Nat.zero_add, Nat.add_zero, Nat.sub_self, Nat.sub_zero, Nat.zero_mul, Nat.mul_one, Nat.zero_le, if_true, if_false, reduceIte, stays, inL, same1, qn, ldN, convN, lenN, List.mem_cons, List.not_mem_nil, Option.map_some, Option.map_none, cond_true, cond_false, Sx.imp_true, Sx.imp_false, implies_true, Int.reduceEq, Int.reduceNe, Int.reduceLE, Int.reduceLT, decide_true, decide_false, List.zipIdx_cons, List.zipIdx_nil, or_false, false_or, forall_eq_or_imp, forall_eq, ne_eq, reduceCtorEq, not_false_eq_true, Bool.false_eq_true, Bool.true_eq_false, Bool.not_true, Bool.not_false, notInt, numB, tabB, ↓vyB, ↓opY, roA, liveA, lvB, frz, frz1, true_or, Array.reduceGetElem?, upG, up, nth, lay, rcB, rnm, rnmL, wrB, pcB, h1]
    refine callP_weak (c89 f lb _ _ ?_)
    simp -implicitDefEqProofs (maxSteps := 1000000) (disch := omega) only [↓vcB, ↓gd, ↓opP, ↓qv, ↓ef, ↓bslS, ↓stS, ↓mkS, ↓rangeS, ↓nextS, ↓entryS, ↓delS, ↓mupS, ↓appS, ↓s2bS, ↓resS, evB, Sx.look, slot, ↓lkL, putS, putO, argsL, ↓reduceIte, ofV, of1, lookH, putH, List.length_cons, List.length_nil, List.length_append, List.replicate, List.append, List.cons_append, List.nil_append, List.append_assoc, List.map_cons, List.map_nil, convS, fldA, nthT, idxA, idxS, fldS, oslN, bnd, slS, unS, valI, lenS, lookS, takeC, psB, asRow, csB, Int.toNat_natCast, Int.le_refl, and_self, rdF, Ent.row, ldS, sz, szL, wrF, bldF, plT, bldS, srcS, nilS, nilEq, mapC, binH, binS2, structS, eqL, eqF, binS, arrS, isI, tupS, stor, storL, Value.oneCell', minS, maxS, capS, true_and, and_true, Nat.reduceAdd, Nat.reduceSub, Nat.reduceMul, Nat.reduceLT, Nat.reduceLeDiff, Nat.reduceEqDiff, Nat.reduceBEq, Int.reduceToNat, Int.reduceNeg, Nat.zero_add, Nat.add_zero, Nat.sub_self, Nat.sub_zero, Nat.zero_mul, Nat.mul_one, Nat.zero_le, if_true, if_false, reduceIte, stays, inL, same1, qn, ldN, convN, lenN, List.mem_cons, List.not_mem_nil, Option.map_some, Option.map_none, cond_true, cond_false, Sx.imp_true, Sx.imp_false, implies_true, Int.reduceEq, Int.reduceNe, Int.reduceLE, Int.reduceLT, decide_true, decide_false, List.zipIdx_cons, List.zipIdx_nil, or_false, false_or, forall_eq_or_imp, forall_eq, ne_eq, reduceCtorEq, not_false_eq_true, Bool.false_eq_true, Bool.true_eq_false, Bool.not_true, Bool.not_false, notInt, numB, tabB, ↓vyB, ↓opY, roA, liveA, lvB, frz, frz1, true_or, Array.reduceGetElem?, upG, up, nth, lay, rcB, rnm, rnmL, wrB, pcB, h1]
    refine codeY_range [] n (fun i => .str ⟨⟨A i⟩⟩) (fun _ => trivial) (by simp [roA, liveA, lookH, Chunk.live, Chunk.wr]) (by simp) (fun ρ w X hk _ => ?_) (fun i g h' => g = .run i ∧ (i : Int) < a ∧ i ≤ n ∧ h' = [.cells false [.int .i64 a], .cells false [.v (.func (.func f) #[] ⟨lb⟩)], .cells true [.v (.func (.yield l) #[] #[])], .cells true [.int .i64 (a - i)]]) (fun i g e h' => e = .ret ∧ endsG N g) ?_ ?_ ?_ ?_
    · exact hk.elim fun B hk => ⟨f, lb, B, rfl, hk.2, fun b hb => .inl (hk.1 b hb)⟩
    · exact ⟨rfl, by omega, by omega, by simp [frz, inL]⟩
    · rintro i g h' hi ⟨rfl, hia, hin, rfl⟩
      refine codeY_of_vc (pl := pl105) tabOk follows_mixed (by kernel_rfl) ?_
      simp -implicitDefEqProofs (maxSteps := 1000000) (disch := omega) only [↓vcB, ↓gd, ↓opP, ↓qv, ↓ef, ↓bslS, ↓stS, ↓mkS, ↓rangeS, ↓nextS, ↓entryS, ↓delS, ↓mupS, ↓appS, ↓s2bS, ↓resS, evB, Sx.look, slot, ↓lkL, putS, putO, argsL, ↓reduceIte, ofV, of1, lookH, putH, List.length_cons, List.length_nil, List.length_append, List.replicate, List.append, List.cons_append, List.nil_append, List.append_assoc, List.map_cons, List.map_nil, convS, fldA, nthT, idxA, idxS, fldS, oslN, bnd, slS, unS, valI, lenS, lookS, takeC, psB, asRow, csB, Int.toNat_natCast, Int.le_refl, and_self, rdF, Ent.row, ldS, sz, szL, wrF, bldF, plT, bldS, srcS, nilS, nilEq, mapC, binH, binS2, structS, eqL, eqF, binS, arrS, isI, tupS, stor, storL, Value.oneCell', minS, maxS, capS, true_and, and_true, Nat.reduceAdd, Nat.reduceSub, Nat.reduceMul, Nat.reduceLT, Nat.reduceLeDiff, Nat.reduceEqDiff, Nat.reduceBEq, Int.reduceToNat, Int.reduceNeg, Nat.zero_add, Nat.add_zero, Nat.sub_self, Nat.sub_zero, Nat.zero_mul, Nat.mul_one, Nat.zero_le, if_true, if_false, reduceIte, stays, inL, same1, qn, ldN, convN, lenN, List.mem_cons, List.not_mem_nil, Option.map_some, Option.map_none, cond_true, cond_false, Sx.imp_true, Sx.imp_false, implies_true, Int.reduceEq, Int.reduceNe, Int.reduceLE, Int.reduceLT, decide_true, decide_false, List.zipIdx_cons, List.zipIdx_nil, or_false, false_or, forall_eq_or_imp, forall_eq, ne_eq, reduceCtorEq, not_false_eq_true, Bool.false_eq_true, Bool.true_eq_false, Bool.not_true, Bool.not_false, notInt, numB, tabB, ↓vyB, ↓opY, roA, liveA, lvB, frz, frz1, true_or, Array.reduceGetElem?, upG, up, nth, lay, rcB, rnm, rnmL, wrB, pcB, h1]
      refine codeY_of_vc (pl := pl105) tabOk follows_mixed (by kernel_rfl) ?_
      have a0 : IntKind.i64.wrap (a - (i : Int) - 1) = a - ((i + 1 : Nat) : Int) := by rw [wrap64 (by omega) (by omega)]; omega
      by_cases hl : a - ((i + 1 : Nat) : Int) = 0
      · have g0 : (a - ((i + 1 : Nat) : Int) == 0) = true := by rw [hl]; rfl
        simp -implicitDefEqProofs (maxSteps := 1000000) (disch := omega) only [↓vcB, ↓gd, ↓opP, ↓qv, ↓ef, ↓bslS, ↓stS, ↓mkS, ↓rangeS, ↓nextS, ↓entryS, ↓delS, ↓mupS, ↓appS, ↓s2bS, ↓resS, evB, Sx.look, slot, ↓lkL, putS, putO, argsL, ↓reduceIte, ofV, of1, lookH, putH, List.length_cons, List.length_nil, List.length_append, List.replicate, List.append, List.cons_append, List.nil_append, List.append_assoc, List.map_cons, List.map_nil, convS, fldA, nthT, idxA, idxS, fldS, oslN, bnd, slS, unS, valI, lenS, lookS, takeC, psB, asRow, csB, Int.toNat_natCast, Int.le_refl, and_self, rdF, Ent.row, ldS, sz, szL, wrF, bldF, plT, bldS, srcS, nilS, nilEq, mapC, binH, binS2, structS, eqL, eqF, binS, arrS, isI, tupS, stor, storL, Value.oneCell', minS, maxS, capS, true_and, and_true, Nat.reduceAdd, Nat.reduceSub, Nat.reduceMul, Nat.reduceLT, Nat.reduceLeDiff, Nat.reduceEqDiff, Nat.reduceBEq, Int.reduceToNat, Int.reduceNeg, Nat.zero_add, Nat.add_zero, Nat.sub_self, Nat.sub_zero, Nat.zero_mul, Nat.mul_one, Nat.zero_le, if_true, if_false, reduceIte, stays, inL, same1, qn, ldN, convN, lenN, List.mem_cons, List.not_mem_nil, Option.map_some, Option.map_none, cond_true, cond_false, Sx.imp_true, Sx.imp_false, implies_true, Int.reduceEq, Int.reduceNe, Int.reduceLE, Int.reduceLT, decide_true, decide_false, List.zipIdx_cons, List.zipIdx_nil, or_false, false_or, forall_eq_or_imp, forall_eq, ne_eq, reduceCtorEq, not_false_eq_true, Bool.false_eq_true, Bool.true_eq_false, Bool.not_true, Bool.not_false, notInt, numB, tabB, ↓vyB, ↓opY, roA, liveA, lvB, frz, frz1, true_or, Array.reduceGetElem?, upG, up, nth, lay, rcB, rnm, rnmL, wrB, pcB, a0, g0]
        exact ⟨⟨by omega, fun _ => rfl⟩, ⟨rfl, intoY_refl ⟨endsG_run (by omega), by simp [roA, liveA, lookH, frz, frz1, inL, Chunk.live, Chunk.wr]⟩⟩, rfl, intoY_refl ⟨endsG_stop (by omega), by simp [roA, liveA, lookH, frz, frz1, inL, Chunk.live, Chunk.wr]⟩⟩
      · have g0 : (a - ((i + 1 : Nat) : Int) == 0) = false := beq_eq_false_iff_ne.2 hl
        simp -implicitDefEqProofs (maxSteps := 1000000) (disch := omega) only [↓vcB, ↓gd, ↓opP, ↓qv, ↓ef, ↓bslS, ↓stS, ↓mkS, ↓rangeS, ↓nextS, ↓entryS, ↓delS, ↓mupS, ↓appS, ↓s2bS, ↓resS, evB, Sx.look, slot, ↓lkL, putS, putO, argsL, ↓reduceIte, ofV, of1, lookH, putH, List.length_cons, List.length_nil, List.length_append, List.replicate, List.append, List.cons_append, List.nil_append, List.append_assoc, List.map_cons, List.map_nil, convS, fldA, nthT, idxA, idxS, fldS, oslN, bnd, slS, unS, valI, lenS, lookS, takeC, psB, asRow, csB, Int.toNat_natCast, Int.le_refl, and_self, rdF, Ent.row, ldS, sz, szL, wrF, bldF, plT, bldS, srcS, nilS, nilEq, mapC, binH, binS2, structS, eqL, eqF, binS, arrS, isI, tupS, stor, storL, Value.oneCell', minS, maxS, capS, true_and, and_true, Nat.reduceAdd, Nat.reduceSub, Nat.reduceMul, Nat.reduceLT, Nat.reduceLeDiff, Nat.reduceEqDiff, Nat.reduceBEq, Int.reduceToNat, Int.reduceNeg, Nat.zero_add, Nat.add_zero, Nat.sub_self, Nat.sub_zero, Nat.zero_mul, Nat.mul_one, Nat.zero_le, if_true, if_false, reduceIte, stays, inL, same1, qn, ldN, convN, lenN, List.mem_cons, List.not_mem_nil, Option.map_some, Option.map_none, cond_true, cond_false, Sx.imp_true, Sx.imp_false, implies_true, Int.reduceEq, Int.reduceNe, Int.reduceLE, Int.reduceLT, decide_true, decide_false, List.zipIdx_cons, List.zipIdx_nil, or_false, false_or, forall_eq_or_imp, forall_eq, ne_eq, reduceCtorEq, not_false_eq_true, Bool.false_eq_true, Bool.true_eq_false, Bool.not_true, Bool.not_false, notInt, numB, tabB, ↓vyB, ↓opY, roA, liveA, lvB, frz, frz1, true_or, Array.reduceGetElem?, upG, up, nth, lay, rcB, rnm, rnmL, wrB, pcB, a0, g0]
        exact ⟨⟨by omega, fun _ => rfl⟩, intoY_refl ⟨⟨by omega, by omega, rfl⟩, by simp [roA, liveA, lookH, frz, frz1, inL, Chunk.live, Chunk.wr]⟩, rfl, intoY_refl ⟨endsG_stop (by omega), by simp [roA, liveA, lookH, frz, frz1, inL, Chunk.live, Chunk.wr]⟩⟩
    · rintro g h' ⟨rfl, hia, hin, rfl⟩
      exact endsG_run (by omega)
    · rintro i g e h' hi ⟨rfl, he⟩
      exact ⟨rfl, he⟩

section
variable {P : Pr} (hP : P.p = Try.prog) {qs : List Nat} {h : List Chunk} {sv : SV} {L : List (List UInt8)} {k1 k2 : Nat} {w1 w2 : Bool}
include hP
theorem SeqT.take (hs : SeqT P qs h sv L) {a : Int} (ha : -9223372036854775808 ≤ a ∧ a ≤ 9223372036854775807) (h1 : lookH h k1 = .cells w1 [.int .i64 a]) (h2 : lookH h k2 = .cells w2 [sv]) (m1 : k1 ∈ qs) (m2 : k2 ∈ qs) :
    SeqT P qs h (.fn (.func 105) [] [.ptr k1 0, .ptr k2 0]) (L.take a.toNat) := by
  intro ρ w X hk hH
  obtain ⟨f, lb, B, hd, hg, hB⟩ := hs ρ w X hk hH
  obtain ⟨ρ', B', e1, e2, e3, e4, e5⟩ := caps2 hH h1 h2 m1 m2 hB hg.1 (s1' := .int .i64 a) (s2' := .v (.func (.func f) #[] ⟨lb⟩)) (fun _ => rfl) (fun _ => hd.symm)
  rw [hP] at hg ⊢
  refine ⟨105, denL ρ [.ptr k1 0, .ptr k2 0], B', rfl, ?_, e5⟩
  rw [← e1]
  exact (gives105 f lb L.length (fun i => L.getD i default) a ha (min L.length a.toNat) rfl e3 e4 (hg.wider e2 e3)).cong (by simp [Nat.min_comm]) fun i hi => by
    rw [List.getD_eq_getElem?_getD, List.getD_eq_getElem?_getD, List.getElem?_take_of_lt (by omega)]
theorem SeqT.vals (n : Nat) (hn : n ≤ 9223372036854775807) (A : Nat → List UInt8) (h1 : lookH h k1 = .cells w1 [.osl k2 0 0 1 n]) (h2 : lookH h k2 = .row w2 n 1 fun i => .str ⟨⟨A i⟩⟩) (m1 : k1 ∈ qs) (m2 : k2 ∈ qs) : SeqT P qs h (.fn (.func 107) [] [.ptr k1 0]) ((List.range n).map A) := by
  intro ρ w X hk hH
  have q1 := hH k1 m1
  have q2 := hH k2 m2
  have r1 : Real ρ k1 (lookH h k1) := by rw [h1] at q1 ⊢; exact ⟨rfl, q1.1.1⟩
  rw [hP]
  refine ⟨107, denL ρ [.ptr k1 0], fun b => b = (ρ k1).b ∨ ((ρ k2).nil = false ∧ b = (ρ k2).b), rfl, ?_, ?_⟩
  · have e1 : denL ρ [.ptr k1 0] = denL (fun k => match k with | 0 => ρ k1 | _ => ρ k2) [.ptr 0 0] := rfl
    rw [e1]
    have r2 : (ρ k2).nil = false → Real ρ k2 (lookH h k2) := fun hn => by rw [h2]; exact ⟨rfl, hn⟩
    refine (gives107 n hn A ?_ ?_).cong (by simp) fun i hi => ?_
    · rintro b (rfl | ⟨hn, rfl⟩)
      · exact q1.2 r1
      · exact q2.2 (r2 hn)
    · intro k c hc
      rcases k with _ | _ | k
      · cases hc
        rw [h1] at q1
        refine ⟨hold_cell q1.1 rfl rfl, fun _ => .inl rfl⟩
      · cases hc
        rw [h2] at q2
        refine ⟨?_, fun hR => .inr ⟨hR.2, rfl⟩⟩
        have h3 := frz1_holds q2.1
        exact h3
      · simp at hc
    · rw [List.getD_eq_getElem?_getD, List.getElem?_map, List.getElem?_range hi]
      rfl
  · rintro b (rfl | ⟨hn, rfl⟩)
    · exact .inr ⟨k1, m1, r1, rfl⟩
    · exact .inr ⟨k2, m2, by rw [h2]; exact ⟨rfl, hn⟩, rfl⟩
end
section
variable {P : Pr} (hP : P.p = Try.prog)
include hP
end
end Go.Proofs.Ytloinbebkhcndaa

set_option linter.all false
set_option maxRecDepth 40000
namespace Go.Proofs.Ytloinbebkhcndaa
open Go Go.Sx

theorem map_getD {α : Type} [Inhabited α] (L : List α) : ((List.range L.length).map fun i => L.getD i default) = L := by
  apply List.ext_getElem?
  intro i
  rw [List.getElem?_map]
  rcases Nat.lt_or_ge i L.length with hi | hi
  · rw [List.getElem?_range hi, List.getElem?_eq_getElem hi]
    simp [List.getD_eq_getElem?_getD, List.getElem?_eq_getElem hi]
  · rw [List.getElem?_eq_none (by simpa using hi), List.getElem?_eq_none hi]
    rfl

theorem res87 : Try.f87.results.toList = [.tmp 2] := rfl
theorem seqR104 {P : Pr} (hP : P.p = Try.prog) {qs : List Nat} {h : List Chunk} {k1 k2 : Nat} {w1 : Bool} {n : Nat} {ks : Nat → Int} {val : Nat → SV} {born : Nat → Nat} {clock : Nat} (hb : Bn n born clock) (h1 : lookH h k1 = .cells w1 [.mp k2]) (h2 : lookH h k2 = .map n (fun i => .int .i64 (ks i)) val born clock) (m1 : k1 ∈ qs) (m2 : k2 ∈ qs) :
    SeqR P qs h (.fn (.func 104) [] [.ptr k1 0]) (keyR n fun j => den (fun _ => ⟨0, 0, 0, true⟩) (.int .i64 (ks j))) (keyF n) := by
  intro ρ w X hk hH
  have q1 := hH k1 m1
  have q2 := hH k2 m2
  have r1 : Real ρ k1 (lookH h k1) := by rw [h1] at q1 ⊢; exact ⟨rfl, q1.1.1⟩
  have r2 : Real ρ k2 (lookH h k2) := by rw [h2] at q2 ⊢; exact ⟨rfl, q2.1.1⟩
  have hBs : ∀ b, (b = (ρ k1).b ∨ b = (ρ k2).b) → b < w.heap.size := by
    rintro b (rfl | rfl)
    · exact q1.2 r1
    · exact q2.2 r2
  rw [hP]
  refine ⟨104, denL ρ [.ptr k1 0], fun b => b = (ρ k1).b ∨ b = (ρ k2).b, rfl, ?_, ?_⟩
  · have e1 : denL ρ [.ptr k1 0] = denL (fun k => match k with | 0 => ρ k1 | _ => ρ k2) [.ptr 0 0] := rfl
    rw [e1]
    refine gives104 n ks (fun i => den ρ (val i)) born clock hb hBs ?_
    intro k c hc
    rcases k with _ | _ | k
    · cases hc
      rw [h1] at q1
      exact ⟨hold_cell q1.1 rfl rfl, fun _ => .inl rfl⟩
    · cases hc
      rw [h2] at q2
      exact ⟨q2.1, fun _ => .inr rfl⟩
    · simp at hc
  · rintro b (rfl | rfl)
    · exact .inr ⟨k1, m1, r1, rfl⟩
    · exact .inr ⟨k2, m2, r2, rfl⟩
theorem c87 (m : Nat) (h : List Chunk) (K : Tok → SV → List Chunk → Prop) (hK : K .mk (.fn (.func 104) [] [.ptr h.length 0]) (h ++ [.cells true [.mp m]])) : callP Try.prog 87 [.mp m] h K := by
  refine callP_of_code tabOk Try.func87 (by kernel_rfl) rfl (Nat.le_of_ble_eq_true rfl) (codeP_of_vc (pl := np) tabOk follows_mixed (by kernel_rfl) ?_)
  rw [Try.ntmps87]
  simp -implicitDefEqProofs (maxSteps := 1000000) (disch := omega) only [↓vcB, ↓gd, ↓opP, ↓qv, ↓ef, ↓bslS, ↓stS, ↓mkS, ↓rangeS, ↓nextS, ↓entryS, ↓delS, ↓mupS, ↓appS, ↓s2bS, ↓resS, evB, Sx.look, slot, ↓lkL, putS, putO, argsL, ↓reduceIte, ofV, of1, lookH, putH, List.length_cons, List.length_nil, List.length_append, List.replicate, List.append, List.cons_append, List.nil_append, List.append_assoc, List.map_cons, List.map_nil, convS, fldA, nthT, idxA, idxS, fldS, oslN, bnd, slS, unS, valI, lenS, lookS, takeC, psB, asRow, csB, Int.toNat_natCast, Int.le_refl, and_self, rdF, Ent.row, ldS, sz, szL, wrF, bldF, plT, bldS, srcS, nilS, nilEq, mapC, binH, binS2, structS, eqL, eqF, binS, arrS, isI, tupS, stor, storL, Value.oneCell', minS, maxS, capS, true_and, and_true, Nat.reduceAdd, Nat.reduceSub, Nat.reduceMul, Nat.reduceLT, Nat.reduceLeDiff, Nat.reduceEqDiff, Nat.reduceBEq, Int.reduceToNat, Int.reduceNeg, Nat.zero_add, Nat.add_zero, Nat.sub_self, Nat.sub_zero, Nat.zero_mul, Nat.mul_one, Nat.zero_le, if_true, if_false, reduceIte, stays, inL, same1, qn, ldN, convN, lenN, List.mem_cons, List.not_mem_nil, Option.map_some, Option.map_none, cond_true, cond_false, Sx.imp_true, Sx.imp_false, implies_true, Int.reduceEq, Int.reduceNe, Int.reduceLE, Int.reduceLT, decide_true, decide_false, List.zipIdx_cons, List.zipIdx_nil, or_false, false_or, forall_eq_or_imp, forall_eq, ne_eq, reduceCtorEq, not_false_eq_true, Bool.false_eq_true, Bool.true_eq_false, Bool.not_true, Bool.not_false, notInt, numB, tabB, Array.reduceGetElem?, upG, up, nth, lay, rcB, rnm, rnmL, wrB, pcB, res87, Value.oneCell']
  exact intoR_refl (by simp) hK
theorem res52 : Try.f52.results.toList = [.tmp 2] := rfl
theorem c52m (L : List Int) (hn : L.length ≤ 1000) (S : List Int) (hS : S = L.mergeSort fun x y => decide (x ≤ y)) (h : List Chunk) (p m : Nat) (w : Bool) (val : Nat → SV) (born : Nat → Nat) (clock : Nat) (hb : Bn L.length born clock) (hp : lookH h p = .cells w [.mp m]) (hm : lookH h m = .map L.length (fun i => .int .i64 (L.getD i default)) val born clock) (K : Tok → SV → List Chunk → Prop)
    (hK : K .mk (.fn (.func 100) [] [.ptr (h.length + 2) 0]) (h ++ [.cells true [.mp m], .row true S.length 1 fun i => .int .i64 (S.getD i default), .cells true [.osl (h.length + 1) 0 0 1 S.length]])) : callP Try.prog 52 [.ptr p 0] h K := by
  have hm1 : lookH (h ++ [.cells true [.mp m]]) m = .map L.length (fun i => .int .i64 (L.getD i default)) val born clock := lookH_old _ _ _ hm (by simp)
  have hk1 : lookH (h ++ [.cells true [.mp m]]) h.length = .cells true [.mp m] := lookH_app0 _ _
  refine callP_of_code tabOk Try.func52 (by kernel_rfl) rfl (Nat.le_of_ble_eq_true rfl) (codeP_of_vc (pl := np) tabOk follows_mixed (by kernel_rfl) ?_)
  rw [Try.ntmps52]
  simp -implicitDefEqProofs (maxSteps := 1000000) (disch := omega) only [↓vcB, ↓gd, ↓opP, ↓qv, ↓ef, ↓bslS, ↓stS, ↓mkS, ↓rangeS, ↓nextS, ↓entryS, ↓delS, ↓mupS, ↓appS, ↓s2bS, ↓resS, evB, Sx.look, slot, ↓lkL, putS, putO, argsL, ↓reduceIte, ofV, of1, lookH, putH, List.length_cons, List.length_nil, List.length_append, List.replicate, List.append, List.cons_append, List.nil_append, List.append_assoc, List.map_cons, List.map_nil, convS, fldA, nthT, idxA, idxS, fldS, oslN, bnd, slS, unS, valI, lenS, lookS, takeC, psB, asRow, csB, Int.toNat_natCast, Int.le_refl, and_self, rdF, Ent.row, ldS, sz, szL, wrF, bldF, plT, bldS, srcS, nilS, nilEq, mapC, binH, binS2, structS, eqL, eqF, binS, arrS, isI, tupS, stor, storL, Value.oneCell', minS, maxS, capS, true_and, and_true, Nat.reduceAdd, Nat.reduceSub, Nat.reduceMul, Nat.reduceLT, Nat.reduceLeDiff, Nat.reduceEqDiff, Nat.reduceBEq, Int.reduceToNat, Int.reduceNeg, Nat.zero_add, Nat.add_zero, Nat.sub_self, Nat.sub_zero, Nat.zero_mul, Nat.mul_one, Nat.zero_le, if_true, if_false, reduceIte, stays, inL, same1, qn, ldN, convN, lenN, List.mem_cons, List.not_mem_nil, Option.map_some, Option.map_none, cond_true, cond_false, Sx.imp_true, Sx.imp_false, implies_true, Int.reduceEq, Int.reduceNe, Int.reduceLE, Int.reduceLT, decide_true, decide_false, List.zipIdx_cons, List.zipIdx_nil, or_false, false_or, forall_eq_or_imp, forall_eq, ne_eq, reduceCtorEq, not_false_eq_true, Bool.false_eq_true, Bool.true_eq_false, Bool.not_true, Bool.not_false, notInt, numB, tabB, Array.reduceGetElem?, upG, up, nth, lay, rcB, rnm, rnmL, wrB, pcB, Option.isNone, res52, hp, hm]
  refine c87 m _ _ ?_
  simp -implicitDefEqProofs (maxSteps := 1000000) (disch := omega) only [↓vcB, ↓gd, ↓opP, ↓qv, ↓ef, ↓bslS, ↓stS, ↓mkS, ↓rangeS, ↓nextS, ↓entryS, ↓delS, ↓mupS, ↓appS, ↓s2bS, ↓resS, evB, Sx.look, slot, ↓lkL, putS, putO, argsL, ↓reduceIte, ofV, of1, lookH, putH, List.length_cons, List.length_nil, List.length_append, List.replicate, List.append, List.cons_append, List.nil_append, List.append_assoc, List.map_cons, List.map_nil, convS, fldA, nthT, idxA, idxS, fldS, oslN, bnd, slS, unS, valI, lenS, lookS, takeC, psB, asRow, csB, Int.toNat_natCast, Int.le_refl, and_self, rdF, Ent.row, ldS, sz, szL, wrF, bldF, plT, bldS, srcS, nilS, nilEq, mapC, binH, binS2, structS, eqL, eqF, binS, arrS, isI, tupS, stor, storL, Value.oneCell', minS, maxS, capS, true_and, and_true, Nat.reduceAdd, Nat.reduceSub, Nat.reduceMul, Nat.reduceLT, Nat.reduceLeDiff, Nat.reduceEqDiff, Nat.reduceBEq, Int.reduceToNat, Int.reduceNeg, Nat.zero_add, Nat.add_zero, Nat.sub_self, Nat.sub_zero, Nat.zero_mul, Nat.mul_one, Nat.zero_le, if_true, if_false, reduceIte, stays, inL, same1, qn, ldN, convN, lenN, List.mem_cons, List.not_mem_nil, Option.map_some, Option.map_none, cond_true, cond_false, Sx.imp_true, Sx.imp_false, implies_true, Int.reduceEq, Int.reduceNe, Int.reduceLE, Int.reduceLT, decide_true, decide_false, List.zipIdx_cons, List.zipIdx_nil, or_false, false_or, forall_eq_or_imp, forall_eq, ne_eq, reduceCtorEq, not_false_eq_true, Bool.false_eq_true, Bool.true_eq_false, Bool.not_true, Bool.not_false, notInt, numB, tabB, Array.reduceGetElem?, upG, up, nth, lay, rcB, rnm, rnmL, wrB, pcB, Option.isNone, res52, hp, hm]
  refine c86 (n := L.length) (ks := fun i => L.getD i default) hn (seqR104 rfl (qs := [h.length, m]) hb hk1 hm1 (by simp) (by simp)) S (by rw [map_getD]; exact hS) _ ?_
  simp -implicitDefEqProofs (maxSteps := 1000000) (disch := omega) only [↓vcB, ↓gd, ↓opP, ↓qv, ↓ef, ↓bslS, ↓stS, ↓mkS, ↓rangeS, ↓nextS, ↓entryS, ↓delS, ↓mupS, ↓appS, ↓s2bS, ↓resS, evB, Sx.look, slot, ↓lkL, putS, putO, argsL, ↓reduceIte, ofV, of1, lookH, putH, List.length_cons, List.length_nil, List.length_append, List.replicate, List.append, List.cons_append, List.nil_append, List.append_assoc, List.map_cons, List.map_nil, convS, fldA, nthT, idxA, idxS, fldS, oslN, bnd, slS, unS, valI, lenS, lookS, takeC, psB, asRow, csB, Int.toNat_natCast, Int.le_refl, and_self, rdF, Ent.row, ldS, sz, szL, wrF, bldF, plT, bldS, srcS, nilS, nilEq, mapC, binH, binS2, structS, eqL, eqF, binS, arrS, isI, tupS, stor, storL, Value.oneCell', minS, maxS, capS, true_and, and_true, Nat.reduceAdd, Nat.reduceSub, Nat.reduceMul, Nat.reduceLT, Nat.reduceLeDiff, Nat.reduceEqDiff, Nat.reduceBEq, Int.reduceToNat, Int.reduceNeg, Nat.zero_add, Nat.add_zero, Nat.sub_self, Nat.sub_zero, Nat.zero_mul, Nat.mul_one, Nat.zero_le, if_true, if_false, reduceIte, stays, inL, same1, qn, ldN, convN, lenN, List.mem_cons, List.not_mem_nil, Option.map_some, Option.map_none, cond_true, cond_false, Sx.imp_true, Sx.imp_false, implies_true, Int.reduceEq, Int.reduceNe, Int.reduceLE, Int.reduceLT, decide_true, decide_false, List.zipIdx_cons, List.zipIdx_nil, or_false, false_or, forall_eq_or_imp, forall_eq, ne_eq, reduceCtorEq, not_false_eq_true, Bool.false_eq_true, Bool.true_eq_false, Bool.not_true, Bool.not_false, notInt, numB, tabB, Array.reduceGetElem?, upG, up, nth, lay, rcB, rnm, rnmL, wrB, pcB, Option.isNone, res52, hp, hm]
  refine c75 _ _ S.length _ ?_
  simp -implicitDefEqProofs (maxSteps := 1000000) (disch := omega) only [↓vcB, ↓gd, ↓opP, ↓qv, ↓ef, ↓bslS, ↓stS, ↓mkS, ↓rangeS, ↓nextS, ↓entryS, ↓delS, ↓mupS, ↓appS, ↓s2bS, ↓resS, evB, Sx.look, slot, ↓lkL, putS, putO, argsL, ↓reduceIte, ofV, of1, lookH, putH, List.length_cons, List.length_nil, List.length_append, List.replicate, List.append, List.cons_append, List.nil_append, List.append_assoc, List.map_cons, List.map_nil, convS, fldA, nthT, idxA, idxS, fldS, oslN, bnd, slS, unS, valI, lenS, lookS, takeC, psB, asRow, csB, Int.toNat_natCast, Int.le_refl, and_self, rdF, Ent.row, ldS, sz, szL, wrF, bldF, plT, bldS, srcS, nilS, nilEq, mapC, binH, binS2, structS, eqL, eqF, binS, arrS, isI, tupS, stor, storL, Value.oneCell', minS, maxS, capS, true_and, and_true, Nat.reduceAdd, Nat.reduceSub, Nat.reduceMul, Nat.reduceLT, Nat.reduceLeDiff, Nat.reduceEqDiff, Nat.reduceBEq, Int.reduceToNat, Int.reduceNeg, Nat.zero_add, Nat.add_zero, Nat.sub_self, Nat.sub_zero, Nat.zero_mul, Nat.mul_one, Nat.zero_le, if_true, if_false, reduceIte, stays, inL, same1, qn, ldN, convN, lenN, List.mem_cons, List.not_mem_nil, Option.map_some, Option.map_none, cond_true, cond_false, Sx.imp_true, Sx.imp_false, implies_true, Int.reduceEq, Int.reduceNe, Int.reduceLE, Int.reduceLT, decide_true, decide_false, List.zipIdx_cons, List.zipIdx_nil, or_false, false_or, forall_eq_or_imp, forall_eq, ne_eq, reduceCtorEq, not_false_eq_true, Bool.false_eq_true, Bool.true_eq_false, Bool.not_true, Bool.not_false, notInt, numB, tabB, Array.reduceGetElem?, upG, up, nth, lay, rcB, rnm, rnmL, wrB, pcB, Option.isNone, res52, hp, hm]
  exact intoR_refl (by simp) hK
theorem c52z (h : List Chunk) (K : Tok → SV → List Chunk → Prop) (hK : K .mk (.fn (.func 101) [] []) h) : callP Try.prog 52 [.v (.pointer none)] h K := by
  refine callP_of_code tabOk Try.func52 (by kernel_rfl) rfl (Nat.le_of_ble_eq_true rfl) (codeP_of_vc (pl := np) tabOk follows_mixed (by kernel_rfl) ?_)
  rw [Try.ntmps52]
  simp -implicitDefEqProofs (maxSteps := 1000000) (disch := omega) only [↓vcB, ↓gd, ↓opP, ↓qv, ↓ef, ↓bslS, ↓stS, ↓mkS, ↓rangeS, ↓nextS, ↓entryS, ↓delS, ↓mupS, ↓appS, ↓s2bS, ↓resS, evB, Sx.look, slot, ↓lkL, putS, putO, argsL, ↓reduceIte, ofV, of1, lookH, putH, List.length_cons, List.length_nil, List.length_append, List.replicate, List.append, List.cons_append, List.nil_append, List.append_assoc, List.map_cons, List.map_nil, convS, fldA, nthT, idxA, idxS, fldS, oslN, bnd, slS, unS, valI, lenS, lookS, takeC, psB, asRow, csB, Int.toNat_natCast, Int.le_refl, and_self, rdF, Ent.row, ldS, sz, szL, wrF, bldF, plT, bldS, srcS, nilS, nilEq, mapC, binH, binS2, structS, eqL, eqF, binS, arrS, isI, tupS, stor, storL, Value.oneCell', minS, maxS, capS, true_and, and_true, Nat.reduceAdd, Nat.reduceSub, Nat.reduceMul, Nat.reduceLT, Nat.reduceLeDiff, Nat.reduceEqDiff, Nat.reduceBEq, Int.reduceToNat, Int.reduceNeg, Nat.zero_add, Nat.add_zero, Nat.sub_self, Nat.sub_zero, Nat.zero_mul, Nat.mul_one, Nat.zero_le, if_true, if_false, reduceIte, stays, inL, same1, qn, ldN, convN, lenN, List.mem_cons, List.not_mem_nil, Option.map_some, Option.map_none, cond_true, cond_false, Sx.imp_true, Sx.imp_false, implies_true, Int.reduceEq, Int.reduceNe, Int.reduceLE, Int.reduceLT, decide_true, decide_false, List.zipIdx_cons, List.zipIdx_nil, or_false, false_or, forall_eq_or_imp, forall_eq, ne_eq, reduceCtorEq, not_false_eq_true, Bool.false_eq_true, Bool.true_eq_false, Bool.not_true, Bool.not_false, notInt, numB, tabB, Array.reduceGetElem?, upG, up, nth, lay, rcB, rnm, rnmL, wrB, pcB, Option.isNone, res52]
  refine c79n _ _ ?_
  simp -implicitDefEqProofs (maxSteps := 1000000) (disch := omega) only [↓vcB, ↓gd, ↓opP, ↓qv, ↓ef, ↓bslS, ↓stS, ↓mkS, ↓rangeS, ↓nextS, ↓entryS, ↓delS, ↓mupS, ↓appS, ↓s2bS, ↓resS, evB, Sx.look, slot, ↓lkL, putS, putO, argsL, ↓reduceIte, ofV, of1, lookH, putH, List.length_cons, List.length_nil, List.length_append, List.replicate, List.append, List.cons_append, List.nil_append, List.append_assoc, List.map_cons, List.map_nil, convS, fldA, nthT, idxA, idxS, fldS, oslN, bnd, slS, unS, valI, lenS, lookS, takeC, psB, asRow, csB, Int.toNat_natCast, Int.le_refl, and_self, rdF, Ent.row, ldS, sz, szL, wrF, bldF, plT, bldS, srcS, nilS, nilEq, mapC, binH, binS2, structS, eqL, eqF, binS, arrS, isI, tupS, stor, storL, Value.oneCell', minS, maxS, capS, true_and, and_true, Nat.reduceAdd, Nat.reduceSub, Nat.reduceMul, Nat.reduceLT, Nat.reduceLeDiff, Nat.reduceEqDiff, Nat.reduceBEq, Int.reduceToNat, Int.reduceNeg, Nat.zero_add, Nat.add_zero, Nat.sub_self, Nat.sub_zero, Nat.zero_mul, Nat.mul_one, Nat.zero_le, if_true, if_false, reduceIte, stays, inL, same1, qn, ldN, convN, lenN, List.mem_cons, List.not_mem_nil, Option.map_some, Option.map_none, cond_true, cond_false, Sx.imp_true, Sx.imp_false, implies_true, Int.reduceEq, Int.reduceNe, Int.reduceLE, Int.reduceLT, decide_true, decide_false, List.zipIdx_cons, List.zipIdx_nil, or_false, false_or, forall_eq_or_imp, forall_eq, ne_eq, reduceCtorEq, not_false_eq_true, Bool.false_eq_true, Bool.true_eq_false, Bool.not_true, Bool.not_false, notInt, numB, tabB, Array.reduceGetElem?, upG, up, nth, lay, rcB, rnm, rnmL, wrB, pcB, Option.isNone, res52]
  exact intoR_refl (by simp) hK

section
variable {P : Pr} (hP : P.p = Try.prog)
include hP
end
end Go.Proofs.Ytloinbebkhcndaa

set_option linter.all false
set_option maxRecDepth 40000
namespace Go.Proofs.Ytloinbebkhcndaa
open Go Go.Sx

section
variable {α : Type} [DecidableEq α]
/-- A list into which one comes that isn't there. -/
def ins (D : List α) (x : α) : List α := if x ∈ D then D else D ++ [x]
end
theorem bn_snoc {n : Nat} {born : Nat → Nat} {clock : Nat} (h : Bn n born clock) : Bn (n + 1) (fun j => if j < n then born j else clock) (clock + 1) := by
  refine ⟨fun j hj => ?_, fun i j hi hj he => ?_⟩
  · simp only
    split
    · rename_i h1; have := h.1 j h1; omega
    · omega
  · simp only at he
    split at he <;> split at he
    · exact h.2 i j (by assumption) (by assumption) he
    · have := h.1 i (by assumption); omega
    · have := h.1 j (by assumption); omega
    · omega
theorem bn_zero (born : Nat → Nat) (clock : Nat) : Bn 0 born clock := ⟨fun j hj => absurd hj (by omega), fun i j hi => absurd hi (by omega)⟩
theorem bn_one : Bn 1 (fun _ => 0) 1 := ⟨fun j _ => Nat.zero_lt_one, fun i j hi hj _ => by omega⟩
end Go.Proofs.Ytloinbebkhcndaa

set_option linter.all false
set_option maxRecDepth 40000
namespace Go.Proofs.Ytloinbebkhcndaa
open Go Go.Sx
end Go.Proofs.Ytloinbebkhcndaa

set_option linter.all false
set_option maxRecDepth 40000
namespace Go.Proofs.Ytloinbebkhcndaa
open Go Go.Sx

section
variable {P : Pr} (hP : P.p = Try.prog) {qs : List Nat} {h : List Chunk} {k1 k2 : Nat} {w1 w2 : Bool}
include hP
omit hP in
theorem SeqT.none (hP : P.p = Try.prog) : SeqT P qs h (.fn (.func 106) [] []) [] := fun ρ w X hk hH => by
  rw [hP]
  exact ⟨106, [], fun _ => False, rfl, gives106 _ (fun b hb => hb.elim), fun b hb => hb.elim⟩
end
end Go.Proofs.Ytloinbebkhcndaa

set_option linter.all false
set_option maxRecDepth 40000
namespace Go.Proofs.Ytloinbebkhcndaa
open Go Go.Sx
end Go.Proofs.Ytloinbebkhcndaa

set_option linter.all false
set_option maxRecDepth 40000
namespace Go.Proofs.Ytloinbebkhcndaa
open Go Go.Sx

theorem sl_eq (x y : List UInt8) : ((ByteArray.mk ⟨x⟩).toList == (ByteArray.mk ⟨y⟩).toList) = (x == y) := by rw [ByteArray.toList_eq, ByteArray.toList_eq]
abbrev Str := List UInt8
theorem str_tri (a b : Str) : a < b ∨ a = b ∨ b < a := by
  rcases Classical.em (a < b) with h | h
  · exact .inl h
  · rcases Classical.em (b < a) with h2 | h2
    · exact .inr (.inr h2)
    · exact .inr (.inl (List.le_antisymm (List.not_lt.1 h2) (List.not_lt.1 h)))
/-- Strictly rising. -/
def Ris (M : List Str) : Prop := List.Pairwise (fun a b => a < b) M
/-- at is where k belongs. -/
def AtK (M : List Str) (k : Str) (p : Nat) : Prop := p ≤ M.length ∧ (∀ j, j < p → M.getD j default < k) ∧ (p < M.length → ¬ M.getD p default < k)
theorem Ris_lt {M : List Str} (h : Ris M) {i j : Nat} (hij : i < j) (hj : j < M.length) : M.getD i default < M.getD j default := by
  have := List.pairwise_iff_getElem.1 h i j (by omega) hj hij
  simpa [List.getD_eq_getElem?_getD, List.getElem?_eq_getElem hj, List.getElem?_eq_getElem (show i < M.length by omega)] using this
theorem take_lt {M : List Str} {k : Str} {p : Nat} (h : AtK M k p) : ∀ y ∈ M.take p, y < k := fun y hy => by
  obtain ⟨i, hi, rfl⟩ := List.getElem_of_mem hy
  rw [List.length_take] at hi
  have := h.2.1 i (by omega)
  rw [List.getElem_take]
  rwa [List.getD_eq_getElem?_getD, List.getElem?_eq_getElem (by omega)] at this
theorem drop_ge {M : List Str} {k : Str} {p : Nat} (hr : Ris M) (h : AtK M k p) : ∀ y ∈ M.drop p, ¬ y < k := fun y hy => by
  obtain ⟨i, hi, rfl⟩ := List.getElem_of_mem hy
  rw [List.length_drop] at hi
  rw [List.getElem_drop]
  have h1 := h.2.2 (by omega)
  intro h2
  rcases Nat.eq_zero_or_pos i with h0 | h0
  · subst h0
    rw [List.getD_eq_getElem?_getD, List.getElem?_eq_getElem (by omega)] at h1
    exact h1 (by simpa using h2)
  · have h3 := Ris_lt hr (show p < p + i by omega) (by omega)
    rw [List.getD_eq_getElem?_getD (l := M) (i := p + i), List.getElem?_eq_getElem (by omega)] at h3
    exact h1 (List.lt_trans h3 h2)
def insAt (M : List Str) (p : Nat) (k : Str) : List Str := M.take p ++ [k] ++ M.drop p
theorem insAt_len (M : List Str) (p : Nat) (k : Str) (h : p ≤ M.length) : (insAt M p k).length = M.length + 1 := by
  simp [insAt]; omega
theorem mem_insAt {M : List Str} {p : Nat} {k y : Str} : y ∈ insAt M p k ↔ y ∈ M ∨ y = k := by
  have : y ∈ M ↔ y ∈ M.take p ∨ y ∈ M.drop p := by rw [← List.mem_append, List.take_append_drop]
  simp only [insAt, List.mem_append, List.mem_singleton, this]
  constructor
  · rintro ((h | h) | h)
    · exact .inl (.inl h)
    · exact .inr h
    · exact .inl (.inr h)
  · rintro ((h | h) | h)
    · exact .inl (.inl h)
    · exact .inr h
    · exact .inl (.inr h)
theorem Ris_insAt {M : List Str} {p : Nat} {k : Str} (hr : Ris M) (h : AtK M k p) (hk : k ∉ M) : Ris (insAt M p k) := by
  have h0 : Ris (M.take p ++ M.drop p) := by rw [List.take_append_drop]; exact hr
  unfold Ris at h0 ⊢
  rw [List.pairwise_append] at h0
  unfold insAt
  rw [List.pairwise_append, List.pairwise_append]
  refine ⟨⟨h0.1, List.pairwise_singleton _ _, ?_⟩, h0.2.1, ?_⟩
  · intro a ha b hb
    simp only [List.mem_singleton] at hb
    subst hb
    exact take_lt h a ha
  · intro a ha b hb
    rw [List.mem_append, List.mem_singleton] at ha
    rcases ha with ha | rfl
    · exact h0.2.2 a ha b hb
    · rcases str_tri a b with h1 | h1 | h1
      · exact h1
      · subst h1; exact absurd (List.mem_of_mem_drop hb) hk
      · exact absurd h1 (drop_ge hr h b hb)
theorem Ris_nodup {M : List Str} (h : Ris M) : M.Nodup := h.imp fun {a b} hab => by rintro rfl; exact List.lt_irrefl _ hab
end Go.Proofs.Ytloinbebkhcndaa

set_option linter.all false
set_option maxRecDepth 40000
namespace Go.Proofs.Ytloinbebkhcndaa
open Go Go.Sx
/-- What holds between the calls. -/
structure SetI (f : Bool) (D M : List Str) (born : Nat → Nat) (clock k : Nat) : Prop where
  nf : f = false → D = []
  nd : D.Nodup
  bn : Bn D.length born clock
  rs : Ris M
  mm : ∀ y, y ∈ M ↔ y ∈ D
  ln : M.length ≤ k
theorem SetI.len {f D M born clock k} (h : SetI f D M born clock k) : D.length = M.length := ((List.perm_ext_iff_of_nodup (Ris_nodup h.rs) h.nd).2 h.mm).length_eq.symm
theorem SetI.same {f D M born clock k} (h : SetI f D M born clock k) : SetI f D M born clock (k + 1) := ⟨h.nf, h.nd, h.bn, h.rs, h.mm, Nat.le_succ_of_le h.ln⟩
theorem nodup_snoc {α : Type} {D : List α} {x : α} (h : D.Nodup) (hx : x ∉ D) : (D ++ [x]).Nodup := by
  rw [List.nodup_append]
  exact ⟨h, List.pairwise_singleton _ x, fun a ha b hb e => hx (by rw [List.mem_singleton] at hb; rw [← hb, ← e]; exact ha)⟩
theorem SetI.ins {f D M born clock k} (h : SetI f D M born clock k) {x : Str} {a : Nat} (ha : AtK M x a) (hx : x ∉ M) : SetI true (D ++ [x]) (insAt M a x) (fun j => if j < D.length then born j else clock) (clock + 1) (k + 1) :=
  ⟨(fun h => by cases h), nodup_snoc h.nd fun hm => hx ((h.mm x).2 hm), by rw [List.length_append]; exact bn_snoc h.bn, Ris_insAt h.rs ha hx, fun y => by rw [mem_insAt, h.mm y, List.mem_append, List.mem_singleton], by rw [insAt_len M a x ha.1]; have := h.ln; omega⟩
theorem SetI.first {f born clock k} (h : SetI f [] [] born clock k) {x : Str} (ha : AtK [] x 0) (hx : x ∉ ([] : List Str)) : SetI true [x] (insAt [] 0 x) (fun _ => 0) 1 (k + 1) := by
  have q := h.ins ha hx
  exact ⟨q.nf, q.nd, bn_one, q.rs, q.mm, q.ln⟩
theorem SeqT.valsL {P : Pr} (hP : P.p = Try.prog) {qs : List Nat} {h : List Chunk} {k1 k2 : Nat} {w1 w2 : Bool} {L : List Str} (n : Nat) (hn : n ≤ 9223372036854775807) (A : Nat → Str) (hL : L = (List.range n).map A) (h1 : lookH h k1 = .cells w1 [.osl k2 0 0 1 n]) (h2 : lookH h k2 = .row w2 n 1 fun i => .str ⟨⟨A i⟩⟩) (m1 : k1 ∈ qs) (m2 : k2 ∈ qs) : SeqT P qs h (.fn (.func 107) [] [.ptr k1 0]) L :=
  hL ▸ SeqT.vals hP n hn A h1 h2 m1 m2
end Go.Proofs.Ytloinbebkhcndaa

set_option linter.all false
set_option maxRecDepth 40000
namespace Go.Proofs.Ytloinbebkhcndaa
open Go Go.Sx
end Go.Proofs.Ytloinbebkhcndaa

set_option linter.all false
set_option maxRecDepth 40000
namespace Go.Proofs.Ytloinbebkhcndaa
open Go Go.Sx

def fxT (β : Str → Bool) : List SV → Option SV
  | [.str ⟨⟨x⟩⟩] => some (.bool (β x))
  | _ => none
theorem fxT_1 (β : Str → Bool) (x : Str) : fxT β [.str ⟨⟨x⟩⟩] = some (.bool (β x)) := rfl
theorem fxT_ok {β : Str → Bool} {args : List SV} {r : SV} (h : fxT β args = some r) : ok 0 r := by
  unfold fxT at h
  split at h <;> cases h
  trivial
theorem res120 : Try.f120.results.toList = [] := rfl
def pl120 : Nat → Plan := fun _ => .nil

theorem gives120 (f : FuncId) (lb : List Value) (f2 : FuncId) (lb2 : List Value) (n : Nat) (A : Nat → List UInt8) (β : Str → Bool) (N : Nat) (hN : N = cntB (fun i => β (A i)) n) (ys : Nat → List UInt8) (hy : ∀ i, i < n → β (A i) = true → ys (cntB (fun i => β (A i)) i) = A i) {ρ : Env} {B : Nat → Prop} {w0 : World} (hB : ∀ b, B b → b < w0.heap.size) (hH : ∀ k c, [Chunk.cells false [.v (.func (.func f2) #[] ⟨lb2⟩)], .cells false [.v (.func (.func f) #[] ⟨lb⟩)]][k]? = some c → Holds ρ w0 k c ∧ (Real ρ k c → B (ρ k).b))
    (hs : Gives Try.prog f lb B n (fun i => .string ⟨⟨A i⟩⟩) w0) (hf : Pures B (.func (.func f2) #[] ⟨lb2⟩) (fxT β) w0) : Gives Try.prog 120 (denL ρ [.ptr 0 0, .ptr 1 0]) B N (fun i => .string ⟨⟨ys i⟩⟩) w0 := by
  refine gives_of_codeY (P := seqfPr Try.prog f lb n (fun i => .string ⟨⟨A i⟩⟩) (.func (.func f2) #[] ⟨lb2⟩) (fxT β) ⟨[.str ⟨⟨[]⟩⟩], _, rfl⟩) tabOk Try.func120 (by kernel_rfl) rfl res120 (Nat.le_of_ble_eq_true rfl) (by simp [slot, lkL, fixed, rg, renH, chB, lookH, eqvL, eqv, eqvF, rnmL, rnm, liveN, lvB, goodH, gdB, okL, ok, sz, szL, storL, stor, renT, okT, pcB, Value.oneCell']) (by simp [okL, ok]) (by simp [Chunk.wr]) (fun l => ?_) hB hH
    (fun w hw hb => ⟨⟨B, fun b hb hx => hx.elim id fun h => h.2 hb, hs.later hw hb⟩, B, fun b hb hx => hx.elim id fun h => h.2 hb, hf.later hw hb⟩) (fv := (.func (.func f2) #[] ⟨lb2⟩)) (fx := fxT β) (fun args r har => ⟨fxT_ok har, fun ρ w X hk => hk.2.elim fun B h => ⟨B, h.1, (h.2 args r har).2 ρ⟩⟩)
  refine codeY_of_vc (pl := pl120) tabOk follows_mixed (by kernel_rfl) ?_
  rw [Try.ntmps120]
  simp -implicitDefEqProofs (maxSteps := 1000000) (disch := omega) only [↓vcB, ↓gd, ↓opP, ↓qv, ↓ef, ↓bslS, ↓stS, ↓mkS, ↓rangeS, ↓nextS, ↓entryS, ↓delS, ↓mupS, ↓appS, ↓s2bS, ↓resS, evB, Sx.look, slot, ↓lkL, putS, putO, argsL, ↓reduceIte, ofV, of1, lookH, putH, List.length_cons, List.length_nil, List.length_append, List.replicate, List.append, List.cons_append, List.nil_append, List.append_assoc, List.map_cons, List.map_nil, convS, fldA, nthT, idxA, idxS, fldS, oslN, bnd, slS, unS, valI, lenS, lookS, takeC, psB, asRow, csB, Int.toNat_natCast, Int.le_refl, and_self, rdF, Ent.row, ldS, sz, szL, wrF, bldF, plT, bldS, srcS, nilS, nilEq, mapC, binH, binS2, structS, eqL, eqF, binS, arrS, isI, tupS, stor, storL, Value.oneCell', minS, maxS, capS, true_and, and_true, Nat.reduceAdd, Nat.reduceSub, Nat.reduceMul, Nat.reduceLT, Nat.reduceLeDiff, Nat.reduceEqDiff, Nat.reduceBEq, Int.reduceToNat, Int.reduceNeg, Nat.zero_add, Nat.add_zero, Nat.sub_self, Nat.sub_zero, Nat.zero_mul, Nat.mul_one, Nat.zero_le, if_true, if_false, reduceIte, stays, inL, same1, qn, ldN, convN, lenN, List.mem_cons, List.not_mem_nil, Option.map_some, Option.map_none, cond_true, cond_false, Sx.imp_true, Sx.imp_false, implies_true, Int.reduceEq, Int.reduceNe, Int.reduceLE, Int.reduceLT, decide_true, decide_false, List.zipIdx_cons, List.zipIdx_nil, or_false, false_or, forall_eq_or_imp, forall_eq, ne_eq, reduceCtorEq, not_false_eq_true, Bool.false_eq_true, Bool.true_eq_false, Bool.not_true, Bool.not_false, notInt, numB, tabB, ↓vyB, ↓opY, roA, liveA, lvB, frz, frz1, true_or, Array.reduceGetElem?, upG, up, nth, lay, rcB, rnm, rnmL, wrB, pcB]
  refine callP_weak (c89 f lb _ _ ?_)
  simp -implicitDefEqProofs (maxSteps := 1000000) (disch := omega) only [↓vcB, ↓gd, ↓opP, ↓qv, ↓ef, ↓bslS, ↓stS, ↓mkS, ↓rangeS, ↓nextS, ↓entryS, ↓delS, ↓mupS, ↓appS, ↓s2bS, ↓resS, evB, Sx.look, slot, ↓lkL, putS, putO, argsL, ↓reduceIte, ofV, of1, lookH, putH, List.length_cons, List.length_nil, List.length_append, List.replicate, List.append, List.cons_append, List.nil_append, List.append_assoc, List.map_cons, List.map_nil, convS, fldA, nthT, idxA, idxS, fldS, oslN, bnd, slS, unS, valI, lenS, lookS, takeC, psB, asRow, csB, Int.toNat_natCast, Int.le_refl, and_self, rdF, Ent.row, ldS, sz, szL, wrF, bldF, plT, bldS, srcS, nilS, nilEq, mapC, binH, binS2, structS, eqL, eqF, binS, arrS, isI, tupS, stor, storL, Value.oneCell', minS, maxS, capS, true_and, and_true, Nat.reduceAdd, Nat.reduceSub, Nat.reduceMul, Nat.reduceLT, Nat.reduceLeDiff, Nat.reduceEqDiff, Nat.reduceBEq, Int.reduceToNat, Int.reduceNeg, Nat.zero_add, Nat.add_zero, Nat.sub_self, Nat.sub_zero, Nat.zero_mul, Nat.mul_one, Nat.zero_le, if_true, if_false, reduceIte, stays, inL, same1, qn, ldN, convN, lenN, List.mem_cons, List.not_mem_nil, Option.map_some, Option.map_none, cond_true, cond_false, Sx.imp_true, Sx.imp_false, implies_true, Int.reduceEq, Int.reduceNe, Int.reduceLE, Int.reduceLT, decide_true, decide_false, List.zipIdx_cons, List.zipIdx_nil, or_false, false_or, forall_eq_or_imp, forall_eq, ne_eq, reduceCtorEq, not_false_eq_true, Bool.false_eq_true, Bool.true_eq_false, Bool.not_true, Bool.not_false, notInt, numB, tabB, ↓vyB, ↓opY, roA, liveA, lvB, frz, frz1, true_or, Array.reduceGetElem?, upG, up, nth, lay, rcB, rnm, rnmL, wrB, pcB]
  refine codeY_range [] n (fun i => .str ⟨⟨A i⟩⟩) (fun _ => trivial) (by simp [roA, liveA, lookH, Chunk.live, Chunk.wr]) (by simp) (fun ρ w X hk _ => ?_) (fun i g h' => g = .run (cntB (fun i => β (A i)) i) ∧ i ≤ n ∧ h' = [.cells false [.v (.func (.func f2) #[] ⟨lb2⟩)], .cells false [.v (.func (.func f) #[] ⟨lb⟩)], .cells true [.v (.func (.yield l) #[] #[])]]) (fun i g e h' => e = .ret ∧ endsG N g) ?_ ?_ ?_ ?_
  · exact hk.1.elim fun B hk => ⟨f, lb, B, rfl, hk.2, fun b hb => .inl (hk.1 b hb)⟩
  · exact ⟨rfl, by omega, by simp [frz, inL]⟩
  · rintro i g h' hi ⟨rfl, hin, rfl⟩
    refine codeY_of_vc (pl := pl120) tabOk follows_mixed (by kernel_rfl) ?_
    simp -implicitDefEqProofs (maxSteps := 1000000) (disch := omega) only [↓vcB, ↓gd, ↓opP, ↓qv, ↓ef, ↓bslS, ↓stS, ↓mkS, ↓rangeS, ↓nextS, ↓entryS, ↓delS, ↓mupS, ↓appS, ↓s2bS, ↓resS, evB, Sx.look, slot, ↓lkL, putS, putO, argsL, ↓reduceIte, ofV, of1, lookH, putH, List.length_cons, List.length_nil, List.length_append, List.replicate, List.append, List.cons_append, List.nil_append, List.append_assoc, List.map_cons, List.map_nil, convS, fldA, nthT, idxA, idxS, fldS, oslN, bnd, slS, unS, valI, lenS, lookS, takeC, psB, asRow, csB, Int.toNat_natCast, Int.le_refl, and_self, rdF, Ent.row, ldS, sz, szL, wrF, bldF, plT, bldS, srcS, nilS, nilEq, mapC, binH, binS2, structS, eqL, eqF, binS, arrS, isI, tupS, stor, storL, Value.oneCell', minS, maxS, capS, true_and, and_true, Nat.reduceAdd, Nat.reduceSub, Nat.reduceMul, Nat.reduceLT, Nat.reduceLeDiff, Nat.reduceEqDiff, Nat.reduceBEq, Int.reduceToNat, Int.reduceNeg, Nat.zero_add, Nat.add_zero, Nat.sub_self, Nat.sub_zero, Nat.zero_mul, Nat.mul_one, Nat.zero_le, if_true, if_false, reduceIte, stays, inL, same1, qn, ldN, convN, lenN, List.mem_cons, List.not_mem_nil, Option.map_some, Option.map_none, cond_true, cond_false, Sx.imp_true, Sx.imp_false, implies_true, Int.reduceEq, Int.reduceNe, Int.reduceLE, Int.reduceLT, decide_true, decide_false, List.zipIdx_cons, List.zipIdx_nil, or_false, false_or, forall_eq_or_imp, forall_eq, ne_eq, reduceCtorEq, not_false_eq_true, Bool.false_eq_true, Bool.true_eq_false, Bool.not_true, Bool.not_false, notInt, numB, tabB, ↓vyB, ↓opY, roA, liveA, lvB, frz, frz1, true_or, Array.reduceGetElem?, upG, up, nth, lay, rcB, rnm, rnmL, wrB, pcB]
    refine codeY_of_vc (pl := pl120) tabOk follows_mixed (by kernel_rfl) ?_
    cases hb : β (A i) with
    | false =>
      simp -implicitDefEqProofs (maxSteps := 1000000) (disch := omega) only [↓vcB, ↓gd, ↓opP, ↓qv, ↓ef, ↓bslS, ↓stS, ↓mkS, ↓rangeS, ↓nextS, ↓entryS, ↓delS, ↓mupS, ↓appS, ↓s2bS, ↓resS, evB, Sx.look, slot, ↓lkL, putS, putO, argsL, ↓reduceIte, ofV, of1, lookH, putH, List.length_cons, List.length_nil, List.length_append, List.replicate, List.append, List.cons_append, List.nil_append, List.append_assoc, List.map_cons, List.map_nil, convS, fldA, nthT, idxA, idxS, fldS, oslN, bnd, slS, unS, valI, lenS, lookS, takeC, psB, asRow, csB, Int.toNat_natCast, Int.le_refl, and_self, rdF, Ent.row, ldS, sz, szL, wrF, bldF, plT, bldS, srcS, nilS, nilEq, mapC, binH, binS2, structS, eqL, eqF, binS, arrS, isI, tupS, stor, storL, Value.oneCell', minS, maxS, capS, true_and, and_true, Nat.reduceAdd, Nat.reduceSub, Nat.reduceMul, Nat.reduceLT, Nat.reduceLeDiff, Nat.reduceEqDiff, Nat.reduceBEq, Int.reduceToNat, Int.reduceNeg, Nat.zero_add, Nat.add_zero, Nat.sub_self, Nat.sub_zero, Nat.zero_mul, Nat.mul_one, Nat.zero_le, if_true, if_false, reduceIte, stays, inL, same1, qn, ldN, convN, lenN, List.mem_cons, List.not_mem_nil, Option.map_some, Option.map_none, cond_true, cond_false, Sx.imp_true, Sx.imp_false, implies_true, Int.reduceEq, Int.reduceNe, Int.reduceLE, Int.reduceLT, decide_true, decide_false, List.zipIdx_cons, List.zipIdx_nil, or_false, false_or, forall_eq_or_imp, forall_eq, ne_eq, reduceCtorEq, not_false_eq_true, Bool.false_eq_true, Bool.true_eq_false, Bool.not_true, Bool.not_false, notInt, numB, tabB, ↓vyB, ↓opY, roA, liveA, lvB, frz, frz1, true_or, Array.reduceGetElem?, upG, up, nth, lay, rcB, rnm, rnmL, wrB, pcB, fxT_1, hb]
      refine intoY_refl ⟨⟨by rw [cntB_succ]; simp [hb], by omega, rfl⟩, by simp [roA, liveA, lookH, frz, frz1, inL, Chunk.live, Chunk.wr]⟩
    | true =>
      have hlt := cntB_lt (fun i => β (A i)) hi hb
      simp -implicitDefEqProofs (maxSteps := 1000000) (disch := omega) only [↓vcB, ↓gd, ↓opP, ↓qv, ↓ef, ↓bslS, ↓stS, ↓mkS, ↓rangeS, ↓nextS, ↓entryS, ↓delS, ↓mupS, ↓appS, ↓s2bS, ↓resS, evB, Sx.look, slot, ↓lkL, putS, putO, argsL, ↓reduceIte, ofV, of1, lookH, putH, List.length_cons, List.length_nil, List.length_append, List.replicate, List.append, List.cons_append, List.nil_append, List.append_assoc, List.map_cons, List.map_nil, convS, fldA, nthT, idxA, idxS, fldS, oslN, bnd, slS, unS, valI, lenS, lookS, takeC, psB, asRow, csB, Int.toNat_natCast, Int.le_refl, and_self, rdF, Ent.row, ldS, sz, szL, wrF, bldF, plT, bldS, srcS, nilS, nilEq, mapC, binH, binS2, structS, eqL, eqF, binS, arrS, isI, tupS, stor, storL, Value.oneCell', minS, maxS, capS, true_and, and_true, Nat.reduceAdd, Nat.reduceSub, Nat.reduceMul, Nat.reduceLT, Nat.reduceLeDiff, Nat.reduceEqDiff, Nat.reduceBEq, Int.reduceToNat, Int.reduceNeg, Nat.zero_add, Nat.add_zero, Nat.sub_self, Nat.sub_zero, Nat.zero_mul, Nat.mul_one, Nat.zero_le, if_true, if_false, reduceIte, stays, inL, same1, qn, ldN, convN, lenN, List.mem_cons, List.not_mem_nil, Option.map_some, Option.map_none, cond_true, cond_false, Sx.imp_true, Sx.imp_false, implies_true, Int.reduceEq, Int.reduceNe, Int.reduceLE, Int.reduceLT, decide_true, decide_false, List.zipIdx_cons, List.zipIdx_nil, or_false, false_or, forall_eq_or_imp, forall_eq, ne_eq, reduceCtorEq, not_false_eq_true, Bool.false_eq_true, Bool.true_eq_false, Bool.not_true, Bool.not_false, notInt, numB, tabB, ↓vyB, ↓opY, roA, liveA, lvB, frz, frz1, true_or, Array.reduceGetElem?, upG, up, nth, lay, rcB, rnm, rnmL, wrB, pcB, fxT_1, hb]
      exact ⟨⟨by omega, fun _ => by rw [hy i hi hb]; rfl⟩, intoY_refl ⟨⟨by rw [cntB_succ]; simp [hb], by omega, rfl⟩, by simp [roA, liveA, lookH, frz, frz1, inL, Chunk.live, Chunk.wr]⟩, rfl, intoY_refl ⟨endsG_stop (by omega), by simp [roA, liveA, lookH, frz, frz1, inL, Chunk.live, Chunk.wr]⟩⟩
  · rintro g h' ⟨rfl, hin, rfl⟩
    exact endsG_run hN.symm
  · rintro i g e h' hi ⟨rfl, he⟩
    exact ⟨rfl, he⟩
section
variable {P : Pr} (hP : P.p = Try.prog) {qs : List Nat} {h : List Chunk} {sv : SV} {L : List Str} {k1 k2 : Nat} {w1 w2 : Bool}
include hP
theorem SeqT.keep (hs : SeqT P qs h sv L) {sf : SV} {β : Str → Bool} (hf : FunS P qs h sf (fxT β)) (h1 : lookH h k1 = .cells w1 [sf]) (h2 : lookH h k2 = .cells w2 [sv]) (m1 : k1 ∈ qs) (m2 : k2 ∈ qs) :
    SeqT P qs h (.fn (.func 120) [] [.ptr k1 0, .ptr k2 0]) (L.filter β) := by
  intro ρ w X hk hH
  obtain ⟨f, lb, B, hd, hg, hB⟩ := hs ρ w X hk hH
  obtain ⟨f2, lb2, B2, hd2, hs2, hp2, hB2⟩ := hf ρ w X hk hH
  obtain ⟨ρ', B', e1, e2, e3, e4, e5⟩ := caps2 (B := fun b => B b ∨ B2 b) hH h1 h2 m1 m2 (fun b hb => hb.elim (hB b) (hB2 b)) (fun b hb => hb.elim (hg.1 b) (hs2 b)) (s1' := .v (.func (.func f2) #[] ⟨lb2⟩)) (s2' := .v (.func (.func f) #[] ⟨lb⟩)) (fun _ => hd2.symm) (fun _ => hd.symm)
  rw [hP] at hg hp2 ⊢
  refine ⟨120, denL ρ [.ptr k1 0, .ptr k2 0], B', rfl, ?_, e5⟩
  rw [← e1]
  have key : ∀ i, i ≤ L.length → ((L.take i).filter β).length = cntB (fun i => β (L.getD i default)) i := by
    intro i
    induction i with
    | zero => intro _; rfl
    | succ i ih =>
      intro hi
      rw [cntB_succ, ← ih (by omega), List.take_add_one, List.filter_append, List.length_append, List.getD_eq_getElem?_getD, List.getElem?_eq_getElem (show i < L.length by omega)]
      cases hb : β L[i] <;> simp [hb]
  have hy : ∀ i, i < L.length → β (L.getD i default) = true → (L.filter β).getD (cntB (fun i => β (L.getD i default)) i) default = L.getD i default := by
    intro i hi hb
    have h3 : L.filter β = (L.take i).filter β ++ (L.drop i).filter β := by rw [← List.filter_append, List.take_append_drop]
    rw [h3, List.getD_eq_getElem?_getD, ← key i (by omega), List.getElem?_append_right (Nat.le_refl _), Nat.sub_self, List.drop_eq_getElem_cons hi, List.filter_cons]
    have h4 : L.getD i default = L[i] := by rw [List.getD_eq_getElem?_getD, List.getElem?_eq_getElem hi]; rfl
    rw [h4] at hb ⊢
    rw [if_pos hb]
    rfl
  exact (gives120 f lb f2 lb2 L.length (fun i => L.getD i default) β _ rfl (fun i => (L.filter β).getD i default) hy e3 e4 (hg.wider (fun b hb => e2 b (.inl hb)) e3) fun args r har => ⟨(hp2 args r har).1, fun ρ => ((hp2 args r har).2 ρ).wider (fun b hb => e2 b (.inr hb)) e3⟩).cong (by rw [← key _ (Nat.le_refl _), List.take_length]) fun i hi => rfl
end
section
variable {P : Pr} (hP : P.p = Try.prog)
include hP
end
end Go.Proofs.Ytloinbebkhcndaa

set_option linter.all false
set_option maxRecDepth 40000
namespace Go.Proofs.Ytloinbebkhcndaa
open Go Go.Sx

theorem res95 : Try.f95.results.toList = [.tmp 4] := rfl
theorem res72 : Try.f72.results.toList = [.tmp 4] := rfl
theorem res71 : Try.f71.results.toList = [.tmp 4] := rfl
def pl95 : Nat → Plan := fun _ => .nil

def pl72 : Nat → Plan := fun _ => .nil

def pl71 : Nat → Plan := fun _ => .nil

theorem SeqL.none {P : Pr} (hP : P.p = Try.prog) {qs : List Nat} {h : List Chunk} : SeqL P qs h (.fn (.func 101) [] []) [] := fun ρ w X hk hH => by
  rw [hP]
  exact ⟨101, [], fun _ => False, rfl, gives101 _ (fun b hb => hb.elim), fun b hb => hb.elim⟩
end Go.Proofs.Ytloinbebkhcndaa

set_option linter.all false
set_option maxRecDepth 40000
namespace Go.Proofs.Ytloinbebkhcndaa
open Go Go.Sx

end Go.Proofs.Ytloinbebkhcndaa

set_option linter.all false
set_option maxRecDepth 40000
namespace Go.Proofs.Ytloinbebkhcndaa
open Go Go.Sx

/-- Votes: who voted for each key, in the order in which they came. -/
abbrev VT := List (Str × List Int)
def ks (T : VT) : List Str := T.map (·.1)
def vs (T : VT) (i : Nat) : List Int := (T.getD i default).2
theorem ks_len (T : VT) : (ks T).length = T.length := List.length_map _
/-- Where a table of votes lies. -/
structure VW where
  m : Nat
  s : Nat → Nat
  t : Nat → Nat
  born : Nat → Nat
  clock : Nat
  bs : Nat → Nat → Nat
  cs : Nat → Nat
def mpR (ro : Bool) (n : Nat) (k v : Nat → SV) (b : Nat → Nat) (c : Nat) : Chunk := if ro then .rmap n k v b c else .map n k v b c
theorem mpR_ne (ro : Bool) (n : Nat) (k v : Nat → SV) (b : Nat → Nat) (c : Nat) : mpR ro n k v b c ≠ .none := by cases ro <;> simp [mpR]
structure VotesW (ro : Bool) (h : List Chunk) (p : Nat) (nv : Int) (T : VT) (W : VW) : Prop where
  nil : T = [] → lookH h p = .cells (!ro) [.int .i64 nv, .v (.map none)]
  top : T ≠ [] → lookH h p = .cells (!ro) [.int .i64 nv, .mp W.m]
  tab : T ≠ [] → lookH h W.m = mpR ro (ks T).length (fun i => sS ((ks T).getD i default)) (fun i => .ptr (W.s i) 0) W.born W.clock
  bn : Bn T.length W.born W.clock
  nd : (ks T).Nodup
  set : ∀ i, i < T.length → lookH h (W.s i) = .cells (!ro) [.mp (W.t i)]
  mp : ∀ i, i < T.length → lookH h (W.t i) = mpR ro (vs T i).length (fun j => .int .i64 ((vs T i).getD j default)) (fun _ => .int .i64 1) (W.bs i) (W.cs i)
  bns : ∀ i, i < T.length → Bn (vs T i).length (W.bs i) (W.cs i)
  ne : ∀ i, i < T.length → vs T i ≠ []
  nds : ∀ i, i < T.length → (vs T i).Nodup
  inj : ∀ i j, i < T.length → j < T.length → W.t i = W.t j → i = j
/-- The names that votes have. -/
def foot (T : VT) (W : VW) (p k : Nat) : Prop := k = p ∨ (T ≠ [] ∧ k = W.m) ∨ ∃ i, i < T.length ∧ (k = W.s i ∨ k = W.t i)
theorem VotesW.pne {ro : Bool} {h : List Chunk} {p : Nat} {nv : Int} {T : VT} {W : VW} (hv : VotesW ro h p nv T W) : ∃ fs, lookH h p = .cells (!ro) fs ∧ fs.length = 2 := by
  by_cases e : T = []
  · exact ⟨_, hv.nil e, rfl⟩
  · exact ⟨_, hv.top e, rfl⟩
theorem foot_live {ro : Bool} {h : List Chunk} {p : Nat} {nv : Int} {T : VT} {W : VW} (hv : VotesW ro h p nv T W) {k : Nat} (hk : foot T W p k) : lookH h k ≠ .none := by
  rcases hk with rfl | ⟨h1, rfl⟩ | ⟨i, hi, rfl | rfl⟩
  · obtain ⟨fs, e, _⟩ := hv.pne
    rw [e]; simp
  · rw [hv.tab h1]; exact mpR_ne _ _ _ _ _ _
  · rw [hv.set i hi]; simp
  · rw [hv.mp i hi]; exact mpR_ne _ _ _ _ _ _
theorem foot_lt {ro : Bool} {h : List Chunk} {p : Nat} {nv : Int} {T : VT} {W : VW} (hv : VotesW ro h p nv T W) {k : Nat} (hk : foot T W p k) : k < h.length := lookH_lt rfl (foot_live hv hk)
/-- Votes stay where other things change. -/
theorem VotesW.same {ro : Bool} {h h' : List Chunk} {p : Nat} {nv : Int} {T : VT} {W : VW} (hv : VotesW ro h p nv T W) (hs : ∀ k, foot T W p k → lookH h' k = lookH h k) : VotesW ro h' p nv T W where
  nil e := by rw [hs p (.inl rfl)]; exact hv.nil e
  top e := by rw [hs p (.inl rfl)]; exact hv.top e
  tab e := by rw [hs _ (.inr (.inl ⟨e, rfl⟩))]; exact hv.tab e
  bn := hv.bn
  nd := hv.nd
  set i hi := by rw [hs _ (.inr (.inr ⟨i, hi, .inl rfl⟩))]; exact hv.set i hi
  mp i hi := by rw [hs _ (.inr (.inr ⟨i, hi, .inr rfl⟩))]; exact hv.mp i hi
  bns := hv.bns
  ne := hv.ne
  nds := hv.nds
  inj := hv.inj
theorem VotesW.ext {ro : Bool} {h h' : List Chunk} {p : Nat} {nv : Int} {T : VT} {W : VW} {N : Nat → Prop} (hv : VotesW ro h p nv T W) (he : Ext N h h') (hn : ∀ k, foot T W p k → ¬ N k) : VotesW ro h' p nv T W :=
  hv.same fun k hk => he.2 k (foot_lt hv hk) (hn k hk)
/-- Names of votes are names of different things. -/
theorem VotesW.ps {ro : Bool} {h : List Chunk} {p : Nat} {nv : Int} {T : VT} {W : VW} (hv : VotesW ro h p nv T W) {i : Nat} (hi : i < T.length) : W.s i ≠ p := fun e => by
  obtain ⟨fs, e1, e2⟩ := hv.pne
  have := hv.set i hi
  rw [e, e1] at this
  cases this
  cases e2
theorem VotesW.pt {ro : Bool} {h : List Chunk} {p : Nat} {nv : Int} {T : VT} {W : VW} (hv : VotesW ro h p nv T W) {i : Nat} (hi : i < T.length) : W.t i ≠ p := fun e => by
  obtain ⟨fs, e1, e2⟩ := hv.pne
  have := hv.mp i hi
  rw [e, e1] at this
  cases ro <;> simp [mpR] at this
theorem VotesW.pm {ro : Bool} {h : List Chunk} {p : Nat} {nv : Int} {T : VT} {W : VW} (hv : VotesW ro h p nv T W) (hT : T ≠ []) : W.m ≠ p := fun e => by
  obtain ⟨fs, e1, e2⟩ := hv.pne
  have := hv.tab hT
  rw [e, e1] at this
  cases ro <;> simp [mpR] at this
theorem VotesW.st {ro : Bool} {h : List Chunk} {p : Nat} {nv : Int} {T : VT} {W : VW} (hv : VotesW ro h p nv T W) {i j : Nat} (hi : i < T.length) (hj : j < T.length) : W.s i ≠ W.t j := fun e => by
  have h1 := hv.set i hi
  have h2 := hv.mp j hj
  rw [e, h2] at h1
  cases ro <;> simp [mpR] at h1
theorem VotesW.sm {ro : Bool} {h : List Chunk} {p : Nat} {nv : Int} {T : VT} {W : VW} (hv : VotesW ro h p nv T W) {i : Nat} (hi : i < T.length) : W.s i ≠ W.m := fun e => by
  have h1 := hv.set i hi
  have h2 := hv.tab (fun e => by rw [e] at hi; cases hi)
  rw [e, h2] at h1
  cases ro <;> simp [mpR] at h1
theorem VotesW.tm {ro : Bool} {h : List Chunk} {p : Nat} {nv : Int} {T : VT} {W : VW} (hv : VotesW ro h p nv T W) {i : Nat} (hi : i < T.length) : W.t i ≠ W.m := fun e => by
  have h1 := hv.mp i hi
  have h2 := hv.tab (fun e => by rw [e] at hi; cases hi)
  rw [e, h2] at h1
  have : (fun i => sS ((ks T).getD i default)) = fun j => SV.int .i64 ((vs T i).getD j default) := by
    cases ro <;> simp only [mpR, Bool.false_eq_true, if_false, if_true] at h1 <;> injection h1
  have := congrFun this 0
  cases this
end Go.Proofs.Ytloinbebkhcndaa

set_option linter.all false
set_option maxRecDepth 40000
namespace Go.Proofs.Ytloinbebkhcndaa
open Go Go.Sx

/-- Get, of a table that is only read. -/
theorem c93r (x : List UInt8) (L : List (List UInt8)) (nv : Int) (h : List Chunk) (p m : Nat) (w : Bool) (val : Nat → SV) (born : Nat → Nat) (clock : Nat) (hp : lookH h p = .cells w [.int .i64 nv, .mp m]) (hm : lookH h m = .rmap L.length (fun i => sS (L.getD i default)) val born clock) (K : Tok → SV → List Chunk → Prop)
    (hK : K .mk (match L.findIdx? (x == ·) with | some i => .tup [val i, .bool true] | none => .tup [.v (.pointer none), .bool false]) h) : callP Try.prog 93 [.ptr p 1, .str ⟨⟨x⟩⟩] h K := by
  have hks := keysS_L (d := default) keyT x L
  have hf := mfind_L (d := default) keyT x L
  have hkk : keyS tab 9 (.str ⟨⟨x⟩⟩) := trivial
  simp only [sS] at hks hf hm
  refine callP_of_code tabOk Try.func93 (by kernel_rfl) rfl (Nat.le_of_ble_eq_true rfl) (codeP_of_vc (pl := np) tabOk follows_mixed (by kernel_rfl) ?_)
  rw [Try.ntmps93]
  cases hq : L.findIdx? (x == ·) with
  | none =>
    rw [hq] at hf hK
    simp -implicitDefEqProofs (maxSteps := 1000000) (disch := omega) only [↓vcB, ↓gd, ↓opP, ↓qv, ↓ef, ↓bslS, ↓stS, ↓mkS, ↓rangeS, ↓nextS, ↓entryS, ↓delS, ↓mupS, ↓appS, ↓s2bS, ↓resS, evB, Sx.look, slot, ↓lkL, putS, putO, argsL, ↓reduceIte, ofV, of1, lookH, putH, List.length_cons, List.length_nil, List.length_append, List.replicate, List.append, List.cons_append, List.nil_append, List.append_assoc, List.map_cons, List.map_nil, convS, fldA, nthT, idxA, idxS, fldS, oslN, bnd, slS, unS, valI, lenS, lookS, takeC, psB, asRow, csB, Int.toNat_natCast, Int.le_refl, and_self, rdF, Ent.row, ldS, sz, szL, wrF, bldF, plT, bldS, srcS, nilS, nilEq, mapC, binH, binS2, structS, eqL, eqF, binS, arrS, isI, tupS, stor, storL, Value.oneCell', minS, maxS, capS, true_and, and_true, Nat.reduceAdd, Nat.reduceSub, Nat.reduceMul, Nat.reduceLT, Nat.reduceLeDiff, Nat.reduceEqDiff, Nat.reduceBEq, Int.reduceToNat, Int.reduceNeg, Nat.zero_add, Nat.add_zero, Nat.sub_self, Nat.sub_zero, Nat.zero_mul, Nat.mul_one, Nat.zero_le, if_true, if_false, reduceIte, stays, inL, same1, qn, ldN, convN, lenN, List.mem_cons, List.not_mem_nil, Option.map_some, Option.map_none, cond_true, cond_false, Sx.imp_true, Sx.imp_false, implies_true, Int.reduceEq, Int.reduceNe, Int.reduceLE, Int.reduceLT, decide_true, decide_false, List.zipIdx_cons, List.zipIdx_nil, or_false, false_or, forall_eq_or_imp, forall_eq, ne_eq, reduceCtorEq, not_false_eq_true, Bool.false_eq_true, Bool.true_eq_false, Bool.not_true, Bool.not_false, notInt, numB, tabB, Array.reduceGetElem?, upG, up, nth, lay, rcB, rnm, rnmL, wrB, pcB, Option.isNone, res93, hp, hm, hf, hks, hkk, Value.oneCell']
    exact intoR_refl (Nat.le_refl _) hK
  | some i =>
    rw [hq] at hf hK
    simp -implicitDefEqProofs (maxSteps := 1000000) (disch := omega) only [↓vcB, ↓gd, ↓opP, ↓qv, ↓ef, ↓bslS, ↓stS, ↓mkS, ↓rangeS, ↓nextS, ↓entryS, ↓delS, ↓mupS, ↓appS, ↓s2bS, ↓resS, evB, Sx.look, slot, ↓lkL, putS, putO, argsL, ↓reduceIte, ofV, of1, lookH, putH, List.length_cons, List.length_nil, List.length_append, List.replicate, List.append, List.cons_append, List.nil_append, List.append_assoc, List.map_cons, List.map_nil, convS, fldA, nthT, idxA, idxS, fldS, oslN, bnd, slS, unS, valI, lenS, lookS, takeC, psB, asRow, csB, Int.toNat_natCast, Int.le_refl, and_self, rdF, Ent.row, ldS, sz, szL, wrF, bldF, plT, bldS, srcS, nilS, nilEq, mapC, binH, binS2, structS, eqL, eqF, binS, arrS, isI, tupS, stor, storL, Value.oneCell', minS, maxS, capS, true_and, and_true, Nat.reduceAdd, Nat.reduceSub, Nat.reduceMul, Nat.reduceLT, Nat.reduceLeDiff, Nat.reduceEqDiff, Nat.reduceBEq, Int.reduceToNat, Int.reduceNeg, Nat.zero_add, Nat.add_zero, Nat.sub_self, Nat.sub_zero, Nat.zero_mul, Nat.mul_one, Nat.zero_le, if_true, if_false, reduceIte, stays, inL, same1, qn, ldN, convN, lenN, List.mem_cons, List.not_mem_nil, Option.map_some, Option.map_none, cond_true, cond_false, Sx.imp_true, Sx.imp_false, implies_true, Int.reduceEq, Int.reduceNe, Int.reduceLE, Int.reduceLT, decide_true, decide_false, List.zipIdx_cons, List.zipIdx_nil, or_false, false_or, forall_eq_or_imp, forall_eq, ne_eq, reduceCtorEq, not_false_eq_true, Bool.false_eq_true, Bool.true_eq_false, Bool.not_true, Bool.not_false, notInt, numB, tabB, Array.reduceGetElem?, upG, up, nth, lay, rcB, rnm, rnmL, wrB, pcB, Option.isNone, res93, hp, hm, hf, hks, hkk, Value.oneCell']
    exact intoR_refl (Nat.le_refl _) hK
theorem c54r (n : Nat) (key val : Nat → SV) (h : List Chunk) (p m : Nat) (w : Bool) (born : Nat → Nat) (clock : Nat) (hp : lookH h p = .cells w [.mp m]) (hm : lookH h m = .rmap n key val born clock) (K : Tok → SV → List Chunk → Prop) (hK : K .mk (.int .i64 (n : Nat)) h) : callP Try.prog 54 [.ptr p 0] h K := by
  refine callP_of_code tabOk Try.func54 (by kernel_rfl) rfl (Nat.le_of_ble_eq_true rfl) (codeP_of_vc (pl := np) tabOk follows_mixed (by kernel_rfl) ?_)
  rw [Try.ntmps54]
  simp -implicitDefEqProofs (maxSteps := 1000000) (disch := omega) only [↓vcB, ↓gd, ↓opP, ↓qv, ↓ef, ↓bslS, ↓stS, ↓mkS, ↓rangeS, ↓nextS, ↓entryS, ↓delS, ↓mupS, ↓appS, ↓s2bS, ↓resS, evB, Sx.look, slot, ↓lkL, putS, putO, argsL, ↓reduceIte, ofV, of1, lookH, putH, List.length_cons, List.length_nil, List.length_append, List.replicate, List.append, List.cons_append, List.nil_append, List.append_assoc, List.map_cons, List.map_nil, convS, fldA, nthT, idxA, idxS, fldS, oslN, bnd, slS, unS, valI, lenS, lookS, takeC, psB, asRow, csB, Int.toNat_natCast, Int.le_refl, and_self, rdF, Ent.row, ldS, sz, szL, wrF, bldF, plT, bldS, srcS, nilS, nilEq, mapC, binH, binS2, structS, eqL, eqF, binS, arrS, isI, tupS, stor, storL, Value.oneCell', minS, maxS, capS, true_and, and_true, Nat.reduceAdd, Nat.reduceSub, Nat.reduceMul, Nat.reduceLT, Nat.reduceLeDiff, Nat.reduceEqDiff, Nat.reduceBEq, Int.reduceToNat, Int.reduceNeg, Nat.zero_add, Nat.add_zero, Nat.sub_self, Nat.sub_zero, Nat.zero_mul, Nat.mul_one, Nat.zero_le, if_true, if_false, reduceIte, stays, inL, same1, qn, ldN, convN, lenN, List.mem_cons, List.not_mem_nil, Option.map_some, Option.map_none, cond_true, cond_false, Sx.imp_true, Sx.imp_false, implies_true, Int.reduceEq, Int.reduceNe, Int.reduceLE, Int.reduceLT, decide_true, decide_false, List.zipIdx_cons, List.zipIdx_nil, or_false, false_or, forall_eq_or_imp, forall_eq, ne_eq, reduceCtorEq, not_false_eq_true, Bool.false_eq_true, Bool.true_eq_false, Bool.not_true, Bool.not_false, notInt, numB, tabB, Array.reduceGetElem?, upG, up, nth, lay, rcB, rnm, rnmL, wrB, pcB, Option.isNone, res54, hp, hm]
  exact intoR_refl (Nat.le_refl _) hK
theorem c93W (x : Str) {ro : Bool} {h : List Chunk} {p : Nat} {nv : Int} {T : VT} {W : VW} (hv : VotesW ro h p nv T W) (K : Tok → SV → List Chunk → Prop) (hK : K .mk (match (ks T).findIdx? (x == ·) with | some i => .tup [.ptr (W.s i) 0, .bool true] | none => .tup [.v (.pointer none), .bool false]) h) : callP Try.prog 93 [.ptr p 1, .str ⟨⟨x⟩⟩] h K := by
  by_cases hT : T = []
  · have h1 := hv.nil hT
    subst hT
    exact c93n x nv h p (!ro) h1 K hK
  · cases ro with
    | false => exact c93m x (ks T) nv h p W.m true _ W.born W.clock (hv.top hT) (hv.tab hT) K hK
    | true => exact c93r x (ks T) nv h p W.m false _ W.born W.clock (hv.top hT) (hv.tab hT) K hK
/-- of: who voted for a key. -/
theorem c95W (x : Str) {ro : Bool} {h : List Chunk} {p : Nat} {nv : Int} {T : VT} {W : VW} (hv : VotesW ro h p nv T W) (K : Tok → SV → List Chunk → Prop) (hK : K .mk (match (ks T).findIdx? (x == ·) with | some i => .ptr (W.s i) 0 | none => .v (.pointer none)) h) : callP Try.prog 95 [.ptr p 0, .str ⟨⟨x⟩⟩] h K := by
  obtain ⟨fs, hp, hfs⟩ := hv.pne
  obtain ⟨f0, f1, rfl⟩ : ∃ a b, fs = [a, b] := by
    match fs, hfs with
    | [a, b], _ => exact ⟨a, b, rfl⟩
  refine callP_of_code tabOk Try.func95 (by kernel_rfl) rfl (Nat.le_of_ble_eq_true rfl) (codeP_of_vc (pl := pl95) tabOk follows_mixed (by kernel_rfl) ?_)
  rw [Try.ntmps95]
  simp -implicitDefEqProofs (maxSteps := 1000000) (disch := omega) only [↓vcB, ↓gd, ↓opP, ↓qv, ↓ef, ↓bslS, ↓stS, ↓mkS, ↓rangeS, ↓nextS, ↓entryS, ↓delS, ↓mupS, ↓appS, ↓s2bS, ↓resS, evB, Sx.look, slot, ↓lkL, putS, putO, argsL, ↓reduceIte, ofV, of1, lookH, putH, List.length_cons, List.length_nil, List.length_append, List.replicate, List.append, List.cons_append, List.nil_append, List.append_assoc, List.map_cons, List.map_nil, convS, fldA, nthT, idxA, idxS, fldS, oslN, bnd, slS, unS, valI, lenS, lookS, takeC, psB, asRow, csB, Int.toNat_natCast, Int.le_refl, and_self, rdF, Ent.row, ldS, sz, szL, wrF, bldF, plT, bldS, srcS, nilS, nilEq, mapC, binH, binS2, structS, eqL, eqF, binS, arrS, isI, tupS, stor, storL, Value.oneCell', minS, maxS, capS, true_and, and_true, Nat.reduceAdd, Nat.reduceSub, Nat.reduceMul, Nat.reduceLT, Nat.reduceLeDiff, Nat.reduceEqDiff, Nat.reduceBEq, Int.reduceToNat, Int.reduceNeg, Nat.zero_add, Nat.add_zero, Nat.sub_self, Nat.sub_zero, Nat.zero_mul, Nat.mul_one, Nat.zero_le, if_true, if_false, reduceIte, stays, inL, same1, qn, ldN, convN, lenN, List.mem_cons, List.not_mem_nil, Option.map_some, Option.map_none, cond_true, cond_false, Sx.imp_true, Sx.imp_false, implies_true, Int.reduceEq, Int.reduceNe, Int.reduceLE, Int.reduceLT, decide_true, decide_false, List.zipIdx_cons, List.zipIdx_nil, or_false, false_or, forall_eq_or_imp, forall_eq, ne_eq, reduceCtorEq, not_false_eq_true, Bool.false_eq_true, Bool.true_eq_false, Bool.not_true, Bool.not_false, notInt, numB, tabB, Array.reduceGetElem?, upG, up, nth, lay, rcB, rnm, rnmL, wrB, pcB, res95, pl95, hp, csz_nilFunc, Value.oneCell', Option.isNone]
  refine c93W x hv _ ?_
  cases hq : (ks T).findIdx? (x == ·) with
  | none =>
    rw [hq] at hK
    simp -implicitDefEqProofs (maxSteps := 1000000) (disch := omega) only [↓vcB, ↓gd, ↓opP, ↓qv, ↓ef, ↓bslS, ↓stS, ↓mkS, ↓rangeS, ↓nextS, ↓entryS, ↓delS, ↓mupS, ↓appS, ↓s2bS, ↓resS, evB, Sx.look, slot, ↓lkL, putS, putO, argsL, ↓reduceIte, ofV, of1, lookH, putH, List.length_cons, List.length_nil, List.length_append, List.replicate, List.append, List.cons_append, List.nil_append, List.append_assoc, List.map_cons, List.map_nil, convS, fldA, nthT, idxA, idxS, fldS, oslN, bnd, slS, unS, valI, lenS, lookS, takeC, psB, asRow, csB, Int.toNat_natCast, Int.le_refl, and_self, rdF, Ent.row, ldS, sz, szL, wrF, bldF, plT, bldS, srcS, nilS, nilEq, mapC, binH, binS2, structS, eqL, eqF, binS, arrS, isI, tupS, stor, storL, Value.oneCell', minS, maxS, capS, true_and, and_true, Nat.reduceAdd, Nat.reduceSub, Nat.reduceMul, Nat.reduceLT, Nat.reduceLeDiff, Nat.reduceEqDiff, Nat.reduceBEq, Int.reduceToNat, Int.reduceNeg, Nat.zero_add, Nat.add_zero, Nat.sub_self, Nat.sub_zero, Nat.zero_mul, Nat.mul_one, Nat.zero_le, if_true, if_false, reduceIte, stays, inL, same1, qn, ldN, convN, lenN, List.mem_cons, List.not_mem_nil, Option.map_some, Option.map_none, cond_true, cond_false, Sx.imp_true, Sx.imp_false, implies_true, Int.reduceEq, Int.reduceNe, Int.reduceLE, Int.reduceLT, decide_true, decide_false, List.zipIdx_cons, List.zipIdx_nil, or_false, false_or, forall_eq_or_imp, forall_eq, ne_eq, reduceCtorEq, not_false_eq_true, Bool.false_eq_true, Bool.true_eq_false, Bool.not_true, Bool.not_false, notInt, numB, tabB, Array.reduceGetElem?, upG, up, nth, lay, rcB, rnm, rnmL, wrB, pcB, res95, pl95, hp, csz_nilFunc, Value.oneCell', Option.isNone]
    exact intoR_refl (Nat.le_refl _) hK
  | some i =>
    rw [hq] at hK
    simp -implicitDefEqProofs (maxSteps := 1000000) (disch := omega) only [↓vcB, ↓gd, ↓opP, ↓qv, ↓ef, ↓bslS, ↓stS, ↓mkS, ↓rangeS, ↓nextS, ↓entryS, ↓delS, ↓mupS, ↓appS, ↓s2bS, ↓resS, evB, Sx.look, slot, ↓lkL, putS, putO, argsL, ↓reduceIte, ofV, of1, lookH, putH, List.length_cons, List.length_nil, List.length_append, List.replicate, List.append, List.cons_append, List.nil_append, List.append_assoc, List.map_cons, List.map_nil, convS, fldA, nthT, idxA, idxS, fldS, oslN, bnd, slS, unS, valI, lenS, lookS, takeC, psB, asRow, csB, Int.toNat_natCast, Int.le_refl, and_self, rdF, Ent.row, ldS, sz, szL, wrF, bldF, plT, bldS, srcS, nilS, nilEq, mapC, binH, binS2, structS, eqL, eqF, binS, arrS, isI, tupS, stor, storL, Value.oneCell', minS, maxS, capS, true_and, and_true, Nat.reduceAdd, Nat.reduceSub, Nat.reduceMul, Nat.reduceLT, Nat.reduceLeDiff, Nat.reduceEqDiff, Nat.reduceBEq, Int.reduceToNat, Int.reduceNeg, Nat.zero_add, Nat.add_zero, Nat.sub_self, Nat.sub_zero, Nat.zero_mul, Nat.mul_one, Nat.zero_le, if_true, if_false, reduceIte, stays, inL, same1, qn, ldN, convN, lenN, List.mem_cons, List.not_mem_nil, Option.map_some, Option.map_none, cond_true, cond_false, Sx.imp_true, Sx.imp_false, implies_true, Int.reduceEq, Int.reduceNe, Int.reduceLE, Int.reduceLT, decide_true, decide_false, List.zipIdx_cons, List.zipIdx_nil, or_false, false_or, forall_eq_or_imp, forall_eq, ne_eq, reduceCtorEq, not_false_eq_true, Bool.false_eq_true, Bool.true_eq_false, Bool.not_true, Bool.not_false, notInt, numB, tabB, Array.reduceGetElem?, upG, up, nth, lay, rcB, rnm, rnmL, wrB, pcB, res95, pl95, hp, csz_nilFunc, Value.oneCell', Option.isNone]
    exact intoR_refl (Nat.le_refl _) hK
/-- How many voted for a key. -/
def cnt (T : VT) (x : Str) : Nat := match (ks T).findIdx? (x == ·) with | some i => (vs T i).length | none => 0
theorem c72W (x : Str) {ro : Bool} {h : List Chunk} {p : Nat} {nv : Int} {T : VT} {W : VW} (hv : VotesW ro h p nv T W) (K : Tok → SV → List Chunk → Prop) (hK : K .mk (.int .i64 (cnt T x : Nat)) h) : callP Try.prog 72 [.ptr p 0, .str ⟨⟨x⟩⟩] h K := by
  refine callP_of_code tabOk Try.func72 (by kernel_rfl) rfl (Nat.le_of_ble_eq_true rfl) (codeP_of_vc (pl := pl72) tabOk follows_mixed (by kernel_rfl) ?_)
  rw [Try.ntmps72]
  simp -implicitDefEqProofs (maxSteps := 1000000) (disch := omega) only [↓vcB, ↓gd, ↓opP, ↓qv, ↓ef, ↓bslS, ↓stS, ↓mkS, ↓rangeS, ↓nextS, ↓entryS, ↓delS, ↓mupS, ↓appS, ↓s2bS, ↓resS, evB, Sx.look, slot, ↓lkL, putS, putO, argsL, ↓reduceIte, ofV, of1, lookH, putH, List.length_cons, List.length_nil, List.length_append, List.replicate, List.append, List.cons_append, List.nil_append, List.append_assoc, List.map_cons, List.map_nil, convS, fldA, nthT, idxA, idxS, fldS, oslN, bnd, slS, unS, valI, lenS, lookS, takeC, psB, asRow, csB, Int.toNat_natCast, Int.le_refl, and_self, rdF, Ent.row, ldS, sz, szL, wrF, bldF, plT, bldS, srcS, nilS, nilEq, mapC, binH, binS2, structS, eqL, eqF, binS, arrS, isI, tupS, stor, storL, Value.oneCell', minS, maxS, capS, true_and, and_true, Nat.reduceAdd, Nat.reduceSub, Nat.reduceMul, Nat.reduceLT, Nat.reduceLeDiff, Nat.reduceEqDiff, Nat.reduceBEq, Int.reduceToNat, Int.reduceNeg, Nat.zero_add, Nat.add_zero, Nat.sub_self, Nat.sub_zero, Nat.zero_mul, Nat.mul_one, Nat.zero_le, if_true, if_false, reduceIte, stays, inL, same1, qn, ldN, convN, lenN, List.mem_cons, List.not_mem_nil, Option.map_some, Option.map_none, cond_true, cond_false, Sx.imp_true, Sx.imp_false, implies_true, Int.reduceEq, Int.reduceNe, Int.reduceLE, Int.reduceLT, decide_true, decide_false, List.zipIdx_cons, List.zipIdx_nil, or_false, false_or, forall_eq_or_imp, forall_eq, ne_eq, reduceCtorEq, not_false_eq_true, Bool.false_eq_true, Bool.true_eq_false, Bool.not_true, Bool.not_false, notInt, numB, tabB, Array.reduceGetElem?, upG, up, nth, lay, rcB, rnm, rnmL, wrB, pcB, res72, pl72, csz_nilFunc, Value.oneCell', Option.isNone]
  refine c95W x hv _ ?_
  unfold cnt at hK
  cases hq : (ks T).findIdx? (x == ·) with
  | none =>
    rw [hq] at hK
    simp -implicitDefEqProofs (maxSteps := 1000000) (disch := omega) only [↓vcB, ↓gd, ↓opP, ↓qv, ↓ef, ↓bslS, ↓stS, ↓mkS, ↓rangeS, ↓nextS, ↓entryS, ↓delS, ↓mupS, ↓appS, ↓s2bS, ↓resS, evB, Sx.look, slot, ↓lkL, putS, putO, argsL, ↓reduceIte, ofV, of1, lookH, putH, List.length_cons, List.length_nil, List.length_append, List.replicate, List.append, List.cons_append, List.nil_append, List.append_assoc, List.map_cons, List.map_nil, convS, fldA, nthT, idxA, idxS, fldS, oslN, bnd, slS, unS, valI, lenS, lookS, takeC, psB, asRow, csB, Int.toNat_natCast, Int.le_refl, and_self, rdF, Ent.row, ldS, sz, szL, wrF, bldF, plT, bldS, srcS, nilS, nilEq, mapC, binH, binS2, structS, eqL, eqF, binS, arrS, isI, tupS, stor, storL, Value.oneCell', minS, maxS, capS, true_and, and_true, Nat.reduceAdd, Nat.reduceSub, Nat.reduceMul, Nat.reduceLT, Nat.reduceLeDiff, Nat.reduceEqDiff, Nat.reduceBEq, Int.reduceToNat, Int.reduceNeg, Nat.zero_add, Nat.add_zero, Nat.sub_self, Nat.sub_zero, Nat.zero_mul, Nat.mul_one, Nat.zero_le, if_true, if_false, reduceIte, stays, inL, same1, qn, ldN, convN, lenN, List.mem_cons, List.not_mem_nil, Option.map_some, Option.map_none, cond_true, cond_false, Sx.imp_true, Sx.imp_false, implies_true, Int.reduceEq, Int.reduceNe, Int.reduceLE, Int.reduceLT, decide_true, decide_false, List.zipIdx_cons, List.zipIdx_nil, or_false, false_or, forall_eq_or_imp, forall_eq, ne_eq, reduceCtorEq, not_false_eq_true, Bool.false_eq_true, Bool.true_eq_false, Bool.not_true, Bool.not_false, notInt, numB, tabB, Array.reduceGetElem?, upG, up, nth, lay, rcB, rnm, rnmL, wrB, pcB, res72, pl72, csz_nilFunc, Value.oneCell', Option.isNone]
    refine c54z _ _ ?_
    simp -implicitDefEqProofs (maxSteps := 1000000) (disch := omega) only [↓vcB, ↓gd, ↓opP, ↓qv, ↓ef, ↓bslS, ↓stS, ↓mkS, ↓rangeS, ↓nextS, ↓entryS, ↓delS, ↓mupS, ↓appS, ↓s2bS, ↓resS, evB, Sx.look, slot, ↓lkL, putS, putO, argsL, ↓reduceIte, ofV, of1, lookH, putH, List.length_cons, List.length_nil, List.length_append, List.replicate, List.append, List.cons_append, List.nil_append, List.append_assoc, List.map_cons, List.map_nil, convS, fldA, nthT, idxA, idxS, fldS, oslN, bnd, slS, unS, valI, lenS, lookS, takeC, psB, asRow, csB, Int.toNat_natCast, Int.le_refl, and_self, rdF, Ent.row, ldS, sz, szL, wrF, bldF, plT, bldS, srcS, nilS, nilEq, mapC, binH, binS2, structS, eqL, eqF, binS, arrS, isI, tupS, stor, storL, Value.oneCell', minS, maxS, capS, true_and, and_true, Nat.reduceAdd, Nat.reduceSub, Nat.reduceMul, Nat.reduceLT, Nat.reduceLeDiff, Nat.reduceEqDiff, Nat.reduceBEq, Int.reduceToNat, Int.reduceNeg, Nat.zero_add, Nat.add_zero, Nat.sub_self, Nat.sub_zero, Nat.zero_mul, Nat.mul_one, Nat.zero_le, if_true, if_false, reduceIte, stays, inL, same1, qn, ldN, convN, lenN, List.mem_cons, List.not_mem_nil, Option.map_some, Option.map_none, cond_true, cond_false, Sx.imp_true, Sx.imp_false, implies_true, Int.reduceEq, Int.reduceNe, Int.reduceLE, Int.reduceLT, decide_true, decide_false, List.zipIdx_cons, List.zipIdx_nil, or_false, false_or, forall_eq_or_imp, forall_eq, ne_eq, reduceCtorEq, not_false_eq_true, Bool.false_eq_true, Bool.true_eq_false, Bool.not_true, Bool.not_false, notInt, numB, tabB, Array.reduceGetElem?, upG, up, nth, lay, rcB, rnm, rnmL, wrB, pcB, res72, pl72, csz_nilFunc, Value.oneCell', Option.isNone]
    exact intoR_refl (Nat.le_refl _) hK
  | some i =>
    rw [hq] at hK
    have hi : i < T.length := by
      obtain ⟨h1, _⟩ := find_some hq
      rwa [ks_len] at h1
    simp -implicitDefEqProofs (maxSteps := 1000000) (disch := omega) only [↓vcB, ↓gd, ↓opP, ↓qv, ↓ef, ↓bslS, ↓stS, ↓mkS, ↓rangeS, ↓nextS, ↓entryS, ↓delS, ↓mupS, ↓appS, ↓s2bS, ↓resS, evB, Sx.look, slot, ↓lkL, putS, putO, argsL, ↓reduceIte, ofV, of1, lookH, putH, List.length_cons, List.length_nil, List.length_append, List.replicate, List.append, List.cons_append, List.nil_append, List.append_assoc, List.map_cons, List.map_nil, convS, fldA, nthT, idxA, idxS, fldS, oslN, bnd, slS, unS, valI, lenS, lookS, takeC, psB, asRow, csB, Int.toNat_natCast, Int.le_refl, and_self, rdF, Ent.row, ldS, sz, szL, wrF, bldF, plT, bldS, srcS, nilS, nilEq, mapC, binH, binS2, structS, eqL, eqF, binS, arrS, isI, tupS, stor, storL, Value.oneCell', minS, maxS, capS, true_and, and_true, Nat.reduceAdd, Nat.reduceSub, Nat.reduceMul, Nat.reduceLT, Nat.reduceLeDiff, Nat.reduceEqDiff, Nat.reduceBEq, Int.reduceToNat, Int.reduceNeg, Nat.zero_add, Nat.add_zero, Nat.sub_self, Nat.sub_zero, Nat.zero_mul, Nat.mul_one, Nat.zero_le, if_true, if_false, reduceIte, stays, inL, same1, qn, ldN, convN, lenN, List.mem_cons, List.not_mem_nil, Option.map_some, Option.map_none, cond_true, cond_false, Sx.imp_true, Sx.imp_false, implies_true, Int.reduceEq, Int.reduceNe, Int.reduceLE, Int.reduceLT, decide_true, decide_false, List.zipIdx_cons, List.zipIdx_nil, or_false, false_or, forall_eq_or_imp, forall_eq, ne_eq, reduceCtorEq, not_false_eq_true, Bool.false_eq_true, Bool.true_eq_false, Bool.not_true, Bool.not_false, notInt, numB, tabB, Array.reduceGetElem?, upG, up, nth, lay, rcB, rnm, rnmL, wrB, pcB, res72, pl72, csz_nilFunc, Value.oneCell', Option.isNone]
    cases ro with
    | false =>
      refine c54 (vs T i).length _ _ _ (W.s i) (W.t i) true (W.bs i) (W.cs i) (hv.set i hi) (hv.mp i hi) _ ?_
      simp -implicitDefEqProofs (maxSteps := 1000000) (disch := omega) only [↓vcB, ↓gd, ↓opP, ↓qv, ↓ef, ↓bslS, ↓stS, ↓mkS, ↓rangeS, ↓nextS, ↓entryS, ↓delS, ↓mupS, ↓appS, ↓s2bS, ↓resS, evB, Sx.look, slot, ↓lkL, putS, putO, argsL, ↓reduceIte, ofV, of1, lookH, putH, List.length_cons, List.length_nil, List.length_append, List.replicate, List.append, List.cons_append, List.nil_append, List.append_assoc, List.map_cons, List.map_nil, convS, fldA, nthT, idxA, idxS, fldS, oslN, bnd, slS, unS, valI, lenS, lookS, takeC, psB, asRow, csB, Int.toNat_natCast, Int.le_refl, and_self, rdF, Ent.row, ldS, sz, szL, wrF, bldF, plT, bldS, srcS, nilS, nilEq, mapC, binH, binS2, structS, eqL, eqF, binS, arrS, isI, tupS, stor, storL, Value.oneCell', minS, maxS, capS, true_and, and_true, Nat.reduceAdd, Nat.reduceSub, Nat.reduceMul, Nat.reduceLT, Nat.reduceLeDiff, Nat.reduceEqDiff, Nat.reduceBEq, Int.reduceToNat, Int.reduceNeg, Nat.zero_add, Nat.add_zero, Nat.sub_self, Nat.sub_zero, Nat.zero_mul, Nat.mul_one, Nat.zero_le, if_true, if_false, reduceIte, stays, inL, same1, qn, ldN, convN, lenN, List.mem_cons, List.not_mem_nil, Option.map_some, Option.map_none, cond_true, cond_false, Sx.imp_true, Sx.imp_false, implies_true, Int.reduceEq, Int.reduceNe, Int.reduceLE, Int.reduceLT, decide_true, decide_false, List.zipIdx_cons, List.zipIdx_nil, or_false, false_or, forall_eq_or_imp, forall_eq, ne_eq, reduceCtorEq, not_false_eq_true, Bool.false_eq_true, Bool.true_eq_false, Bool.not_true, Bool.not_false, notInt, numB, tabB, Array.reduceGetElem?, upG, up, nth, lay, rcB, rnm, rnmL, wrB, pcB, res72, pl72, csz_nilFunc, Value.oneCell', Option.isNone]
      exact intoR_refl (Nat.le_refl _) hK
    | true =>
      refine c54r (vs T i).length _ _ _ (W.s i) (W.t i) false (W.bs i) (W.cs i) (hv.set i hi) (hv.mp i hi) _ ?_
      simp -implicitDefEqProofs (maxSteps := 1000000) (disch := omega) only [↓vcB, ↓gd, ↓opP, ↓qv, ↓ef, ↓bslS, ↓stS, ↓mkS, ↓rangeS, ↓nextS, ↓entryS, ↓delS, ↓mupS, ↓appS, ↓s2bS, ↓resS, evB, Sx.look, slot, ↓lkL, putS, putO, argsL, ↓reduceIte, ofV, of1, lookH, putH, List.length_cons, List.length_nil, List.length_append, List.replicate, List.append, List.cons_append, List.nil_append, List.append_assoc, List.map_cons, List.map_nil, convS, fldA, nthT, idxA, idxS, fldS, oslN, bnd, slS, unS, valI, lenS, lookS, takeC, psB, asRow, csB, Int.toNat_natCast, Int.le_refl, and_self, rdF, Ent.row, ldS, sz, szL, wrF, bldF, plT, bldS, srcS, nilS, nilEq, mapC, binH, binS2, structS, eqL, eqF, binS, arrS, isI, tupS, stor, storL, Value.oneCell', minS, maxS, capS, true_and, and_true, Nat.reduceAdd, Nat.reduceSub, Nat.reduceMul, Nat.reduceLT, Nat.reduceLeDiff, Nat.reduceEqDiff, Nat.reduceBEq, Int.reduceToNat, Int.reduceNeg, Nat.zero_add, Nat.add_zero, Nat.sub_self, Nat.sub_zero, Nat.zero_mul, Nat.mul_one, Nat.zero_le, if_true, if_false, reduceIte, stays, inL, same1, qn, ldN, convN, lenN, List.mem_cons, List.not_mem_nil, Option.map_some, Option.map_none, cond_true, cond_false, Sx.imp_true, Sx.imp_false, implies_true, Int.reduceEq, Int.reduceNe, Int.reduceLE, Int.reduceLT, decide_true, decide_false, List.zipIdx_cons, List.zipIdx_nil, or_false, false_or, forall_eq_or_imp, forall_eq, ne_eq, reduceCtorEq, not_false_eq_true, Bool.false_eq_true, Bool.true_eq_false, Bool.not_true, Bool.not_false, notInt, numB, tabB, Array.reduceGetElem?, upG, up, nth, lay, rcB, rnm, rnmL, wrB, pcB, res72, pl72, csz_nilFunc, Value.oneCell', Option.isNone]
      exact intoR_refl (Nat.le_refl _) hK
end Go.Proofs.Ytloinbebkhcndaa

set_option linter.all false
set_option maxRecDepth 40000
namespace Go.Proofs.Ytloinbebkhcndaa
open Go Go.Sx

theorem vs_set (T : VT) (i : Nat) (e : Str × List Int) (hi : i < T.length) (j : Nat) : vs (T.set i e) j = if j = i then e.2 else vs T j := by
  unfold vs
  rw [List.getD_eq_getElem?_getD, List.getElem?_set]
  by_cases h : i = j
  · subst h
    simp [hi]
  · rw [if_neg h, if_neg (fun e => h e.symm), ← List.getD_eq_getElem?_getD]
theorem ks_set (T : VT) (i : Nat) (x : Str) (l : List Int) (hi : i < T.length) (hx : (ks T)[i]'(by rw [ks_len]; exact hi) = x) : ks (T.set i (x, l)) = ks T := by
  unfold ks
  rw [List.map_set]
  apply List.ext_getElem?
  intro j
  rw [List.getElem?_set]
  by_cases h : i = j
  · subst h
    have : (List.map (·.1) T)[i]'(by simpa using hi) = x := hx
    simp only [if_true, List.length_map, hi, if_true]
    rw [List.getElem?_eq_getElem (by simpa using hi), this]
  · rw [if_neg h]
theorem vs_snoc (T : VT) (e : Str × List Int) (j : Nat) (hj : j < T.length + 1) : vs (T ++ [e]) j = if j = T.length then e.2 else vs T j := by
  unfold vs
  rw [List.getD_eq_getElem?_getD]
  by_cases h : j = T.length
  · subst h; simp
  · rw [if_neg h, List.getElem?_append_left (by omega), ← List.getD_eq_getElem?_getD]
theorem ks_snoc (T : VT) (x : Str) (l : List Int) : ks (T ++ [(x, l)]) = ks T ++ [x] := by simp [ks]
theorem lookH_at (l : List Chunk) {h : List Chunk} {k : Nat} (hk : k < h.length) : lookH (h ++ l) k = lookH h k := by
  induction h generalizing k with
  | nil => simp at hk
  | cons c h ih =>
    cases k with
    | zero => rfl
    | succ k => exact ih (k := k) (by simpa using hk)
/-- A vote more for a key that is there. -/
theorem VotesW.grow {h : List Chunk} {p : Nat} {nv : Int} {T : VT} {W : VW} (hv : VotesW false h p nv T W) {i : Nat} (hi : i < T.length) {x : Str} (hx : (ks T)[i]'(by rw [ks_len]; exact hi) = x) {a : Int} (ha : a ∉ vs T i) :
    VotesW false (putH h (W.t i) (.map (vs T i ++ [a]).length (fun j => .int .i64 ((vs T i ++ [a]).getD j default)) (fun _ => .int .i64 1) (fun j => if j < (vs T i).length then W.bs i j else W.cs i) (W.cs i + 1))) p nv (T.set i (x, vs T i ++ [a]))
      { W with bs := fun k => if k = i then (fun j => if j < (vs T i).length then W.bs i j else W.cs i) else W.bs k, cs := fun k => if k = i then W.cs i + 1 else W.cs k } := by
  have hne : T ≠ [] := fun e => by rw [e] at hi; cases hi
  have hlt : W.t i < h.length := lookH_lt (hv.mp i hi) (mpR_ne _ _ _ _ _ _)
  have hl : ∀ {k}, k ≠ W.t i → ∀ c, lookH (putH h (W.t i) c) k = lookH h k := fun hk c => lookH_put_ne c hk
  have ek := ks_set T i x (vs T i ++ [a]) hi hx
  refine ⟨fun e => absurd e (by simp [hne]), fun _ => ?_, fun _ => ?_, ?_, ?_, fun j hj => ?_, fun j hj => ?_, fun j hj => ?_, fun j hj => ?_, fun j hj => ?_, fun j k hj hk => ?_⟩
  · rw [hl (fun e => hv.pt hi e.symm)]; exact hv.top hne
  · rw [hl (fun e => hv.tm hi e.symm), ek]; exact hv.tab hne
  · rw [List.length_set]; exact hv.bn
  · rw [ek]; exact hv.nd
  · rw [List.length_set] at hj
    rw [hl (hv.st hj hi)]; exact hv.set j hj
  · rw [List.length_set] at hj
    rw [vs_set T i _ hi]
    by_cases e : j = i
    · subst e
      simp only [if_true]
      rw [lookH_put_same _ hlt]
      rfl
    · simp only [if_neg e]
      rw [hl (fun q => e (hv.inj j i hj hi q))]
      exact hv.mp j hj
  · rw [List.length_set] at hj
    rw [vs_set T i _ hi]
    by_cases e : j = i
    · subst e
      simp only [if_true, List.length_append]
      exact bn_snoc (hv.bns j hj)
    · simp only [if_neg e]
      exact hv.bns j hj
  · rw [List.length_set] at hj
    rw [vs_set T i _ hi]
    by_cases e : j = i
    · simp [e]
    · simp only [if_neg e]; exact hv.ne j hj
  · rw [List.length_set] at hj
    rw [vs_set T i _ hi]
    by_cases e : j = i
    · subst e
      simp only [if_true]
      exact nodup_snoc (hv.nds j hj) ha
    · simp only [if_neg e]; exact hv.nds j hj
  · rw [List.length_set] at hj hk
    exact hv.inj j k hj hk
/-- The first vote for a key, where there are others. -/
theorem VotesW.more {h : List Chunk} {p : Nat} {nv : Int} {T : VT} {W : VW} (hv : VotesW false h p nv T W) (hT : T ≠ []) {x : Str} (hx : x ∉ ks T) (a : Int) {h' : List Chunk} (hlen : h'.length = h.length + 2)
    (h1 : lookH h' W.m = .map (ks T ++ [x]).length (fun j => sS ((ks T ++ [x]).getD j default)) (fun j => .ptr (if j < T.length then W.s j else h.length) 0) (fun j => if j < T.length then W.born j else W.clock) (W.clock + 1))
    (h2 : lookH h' h.length = .cells true [.mp (h.length + 1)]) (h3 : lookH h' (h.length + 1) = .map 1 (fun j => .int .i64 ([a].getD j default)) (fun _ => .int .i64 1) (fun _ => 0) 1) (h4 : ∀ k, k < h.length → k ≠ W.m → lookH h' k = lookH h k) :
    VotesW false h' p nv (T ++ [(x, [a])]) ⟨W.m, fun j => if j < T.length then W.s j else h.length, fun j => if j < T.length then W.t j else h.length + 1, fun j => if j < T.length then W.born j else W.clock, W.clock + 1, fun j => if j < T.length then W.bs j else fun _ => 0, fun j => if j < T.length then W.cs j else 1⟩ := by
  have hp := foot_lt hv (k := p) (.inl rfl)
  have hs : ∀ {j}, j < T.length → W.s j < h.length := fun hj => foot_lt hv (.inr (.inr ⟨_, hj, .inl rfl⟩))
  have ht : ∀ {j}, j < T.length → W.t j < h.length := fun hj => foot_lt hv (.inr (.inr ⟨_, hj, .inr rfl⟩))
  refine ⟨fun e => absurd e (by simp), fun _ => ?_, fun _ => ?_, ?_, ?_, fun j hj => ?_, fun j hj => ?_, fun j hj => ?_, fun j hj => ?_, fun j hj => ?_, fun j k hj hk he => ?_⟩
  · rw [h4 p hp (fun e => hv.pm hT e.symm)]; exact hv.top hT
  · rw [ks_snoc]; exact h1
  · rw [List.length_append]; exact bn_snoc hv.bn
  · rw [ks_snoc]; exact nodup_snoc hv.nd hx
  · rw [List.length_append, List.length_singleton] at hj
    by_cases e : j < T.length
    · simp only [if_pos e]
      rw [h4 _ (hs e) (hv.sm e)]
      exact hv.set j e
    · simp only [if_neg e]
      exact h2
  · rw [List.length_append, List.length_singleton] at hj
    rw [vs_snoc T _ j hj]
    by_cases e : j < T.length
    · simp only [if_pos e, if_neg (show ¬ j = T.length by omega)]
      rw [h4 _ (ht e) (hv.tm e)]
      exact hv.mp j e
    · simp only [if_neg e, if_pos (show j = T.length by omega)]
      exact h3
  · rw [List.length_append, List.length_singleton] at hj
    rw [vs_snoc T _ j hj]
    by_cases e : j < T.length
    · simp only [if_pos e, if_neg (show ¬ j = T.length by omega)]
      exact hv.bns j e
    · simp only [if_neg e, if_pos (show j = T.length by omega)]
      exact bn_one
  · rw [List.length_append, List.length_singleton] at hj
    rw [vs_snoc T _ j hj]
    by_cases e : j < T.length
    · simp only [if_neg (show ¬ j = T.length by omega)]
      exact hv.ne j e
    · simp [show j = T.length by omega]
  · rw [List.length_append, List.length_singleton] at hj
    rw [vs_snoc T _ j hj]
    by_cases e : j < T.length
    · simp only [if_neg (show ¬ j = T.length by omega)]
      exact hv.nds j e
    · simp [show j = T.length by omega]
  · rw [List.length_append, List.length_singleton] at hj hk
    simp only at he
    by_cases e1 : j < T.length <;> by_cases e2 : k < T.length
    · rw [if_pos e1, if_pos e2] at he
      exact hv.inj j k e1 e2 he
    · rw [if_pos e1, if_neg e2] at he
      have := ht e1
      omega
    · rw [if_neg e1, if_pos e2] at he
      have := ht e2
      omega
    · omega
end Go.Proofs.Ytloinbebkhcndaa

set_option linter.all false
set_option maxRecDepth 40000
namespace Go.Proofs.Ytloinbebkhcndaa
open Go Go.Sx

/-- The first vote of all. -/
theorem VotesW.start {h : List Chunk} {p : Nat} {nv : Int} (x : Str) (a : Int) {m s t : Nat} (hp : lookH h p = .cells true [.int .i64 nv, .mp m]) (hm : lookH h m = .map 1 (fun _ => sS x) (fun _ => .ptr s 0) (fun _ => 0) 1)
    (hs : lookH h s = .cells true [.mp t]) (ht : lookH h t = .map 1 (fun _ => .int .i64 a) (fun _ => .int .i64 1) (fun _ => 0) 1) {h' : List Chunk} (hh : h' = putH (putH h m (.map 1 (fun j => sS ([x].getD j default)) (fun _ => .ptr s 0) (fun _ => 0) 1)) t (.map 1 (fun j => .int .i64 ([a].getD j default)) (fun _ => .int .i64 1) (fun _ => 0) 1)) :
    VotesW false h' p nv [(x, [a])] ⟨m, fun _ => s, fun _ => t, fun _ => 0, 1, fun _ _ => 0, fun _ => 1⟩ := by
  have hml := lookH_lt hm (by simp)
  have htl := lookH_lt ht (by simp)
  have hmt : m ≠ t := by
    rintro rfl
    rw [hm] at ht
    injection ht with _ h1
    have := congrFun h1 0
    cases this
  have l : ∀ {k}, k ≠ m → k ≠ t → lookH h' k = lookH h k := fun h1 h2 => by rw [hh, lookH_put_ne _ h2, lookH_put_ne _ h1]
  have hsm : s ≠ m := by rintro rfl; rw [hm] at hs; cases hs
  have hst : s ≠ t := by rintro rfl; rw [ht] at hs; cases hs
  have hpm : p ≠ m := by rintro rfl; rw [hm] at hp; cases hp
  have hpt : p ≠ t := by rintro rfl; rw [ht] at hp; cases hp
  refine ⟨fun e => absurd e (by simp), fun _ => ?_, fun _ => ?_, bn_one, List.pairwise_singleton _ _, fun j hj => ?_, fun j hj => ?_, fun j hj => ?_, fun j hj => ?_, fun j hj => ?_, fun j k hj hk he => ?_⟩
  · rw [l hpm hpt]; exact hp
  · rw [hh, lookH_put_ne _ hmt, lookH_put_same _ hml]; rfl
  · rw [l hsm hst]; exact hs
  · have : j = 0 := by simpa using hj
    subst this
    rw [hh, lookH_put_same _ (by rw [putH_len]; exact htl)]; rfl
  · have : j = 0 := by simpa using hj
    subst this
    exact bn_one
  · have : j = 0 := by simpa using hj
    subst this
    simp [vs]
  · have : j = 0 := by simpa using hj
    subst this
    exact List.pairwise_singleton _ _
  · simp at hj hk
    omega
theorem chSim_trans {a b c : Chunk} (h1 : chSim a b) (h2 : chSim b c) : chSim a c := by
  cases a with
  | map n f v b0 c0 =>
    obtain ⟨f1, v1, b1, rfl, q⟩ := h1
    obtain ⟨f2, v2, b2, rfl, q2⟩ := h2
    exact ⟨f2, v2, b2, rfl, fun j hj => ⟨(q j hj).1.trans (q2 j hj).1, (q j hj).2.1.trans (q2 j hj).2.1, (q j hj).2.2.trans (q2 j hj).2.2⟩⟩
  | row wr n s f =>
    obtain ⟨f1, rfl, q⟩ := h1
    obtain ⟨f2, rfl, q2⟩ := h2
    exact ⟨f2, rfl, fun j hj => (q j hj).trans (q2 j hj)⟩
  | _ => cases h1; exact h2
theorem sim_trans {a b c : List Chunk} (h1 : Sim a b) (h2 : Sim b c) : Sim a c := ⟨h1.1.trans h2.1, fun k => chSim_trans (h1.2 k) (h2.2 k)⟩
theorem Sim.put1 {h : List Chunk} {p : Nat} {c c' : Chunk} (hl : lookH h p = c) (hc : chSim c c') (hp : p < h.length) : Sim h (putH h p c') := ⟨(putH_len _ _ _).symm, fun k => by
  by_cases e : k = p
  · subst e
    rw [lookH_put_same c' hp, hl]
    exact hc
  · rw [lookH_put_ne c' e]
    exact chSim.refl _⟩
/-- What a vote makes of votes. -/
def addT (T : VT) (x : Str) (a : Int) : VT := match (ks T).findIdx? (x == ·) with
  | some i => if a ∈ vs T i then T else T.set i (x, vs T i ++ [a])
  | none => T ++ [(x, [a])]
def newT (T : VT) (x : Str) (a : Int) : Bool := match (ks T).findIdx? (x == ·) with
  | some i => decide (a ∉ vs T i)
  | none => true
/-- Add. -/
theorem c70W (x : Str) (a : Int) {h : List Chunk} {p : Nat} {nv : Int} {T : VT} {W : VW} (hv : VotesW false h p nv T W) (K : Tok → SV → List Chunk → Prop) (hbad : a < 0 ∨ nv ≤ a → K .mk (.bool false) h)
    (hok : 0 ≤ a → a < nv → ∀ h' W', VotesW false h' p nv (addT T x a) W' → Ext (foot T W p) h h' → (∀ k, foot (addT T x a) W' p k → foot T W p k ∨ h.length ≤ k) → K .mk (.bool (newT T x a)) h') : callP Try.prog 70 [.ptr p 0, .int .i64 a, .str ⟨⟨x⟩⟩] h K := by
  obtain ⟨fs, hp, hfs⟩ : ∃ f1, lookH h p = .cells true [.int .i64 nv, f1] ∧ True := by
    by_cases e : T = []
    · exact ⟨_, hv.nil e, trivial⟩
    · exact ⟨_, hv.top e, trivial⟩
  refine callP_of_code tabOk Try.func70 (by kernel_rfl) rfl (Nat.le_of_ble_eq_true rfl) (codeP_of_vc (pl := pl70) tabOk follows_mixed (by kernel_rfl) ?_)
  rw [Try.ntmps70]
  by_cases hb : a < 0 ∨ nv ≤ a
  · rcases Classical.em (a < 0) with h0 | h0
    · have g1 : decide (a < 0) = true := decide_eq_true h0
      simp -implicitDefEqProofs (maxSteps := 1000000) (disch := omega) only [↓vcB, ↓gd, ↓opP, ↓qv, ↓ef, ↓bslS, ↓stS, ↓mkS, ↓rangeS, ↓nextS, ↓entryS, ↓delS, ↓mupS, ↓appS, ↓s2bS, ↓resS, evB, Sx.look, slot, ↓lkL, putS, putO, argsL, ↓reduceIte, ofV, of1, lookH, putH, List.length_cons, List.length_nil, List.length_append, List.replicate, List.append, List.cons_append, List.nil_append, List.append_assoc, List.map_cons, List.map_nil, convS, fldA, nthT, idxA, idxS, fldS, oslN, bnd, slS, unS, valI, lenS, lookS, takeC, psB, asRow, csB, Int.toNat_natCast, Int.le_refl, and_self, rdF, Ent.row, ldS, sz, szL, wrF, bldF, plT, bldS, srcS, nilS, nilEq, mapC, binH, binS2, structS, eqL, eqF, binS, arrS, isI, tupS, stor, storL, Value.oneCell', minS, maxS, capS, true_and, and_true, Nat.reduceAdd, Nat.reduceSub, Nat.reduceMul, Nat.reduceLT, Nat.reduceLeDiff, Nat.reduceEqDiff, Nat.reduceBEq, Int.reduceToNat, Int.reduceNeg, Nat.zero_add, Nat.add_zero, Nat.sub_self, Nat.sub_zero, Nat.zero_mul, Nat.mul_one, Nat.zero_le, if_true, if_false, reduceIte, stays, inL, same1, qn, ldN, convN, lenN, List.mem_cons, List.not_mem_nil, Option.map_some, Option.map_none, cond_true, cond_false, Sx.imp_true, Sx.imp_false, implies_true, Int.reduceEq, Int.reduceNe, Int.reduceLE, Int.reduceLT, decide_true, decide_false, List.zipIdx_cons, List.zipIdx_nil, or_false, false_or, forall_eq_or_imp, forall_eq, ne_eq, reduceCtorEq, not_false_eq_true, Bool.false_eq_true, Bool.true_eq_false, Bool.not_true, Bool.not_false, notInt, numB, tabB, Array.reduceGetElem?, upG, up, nth, lay, rcB, rnm, rnmL, wrB, pcB, res70, pl70, g1, hp, csz_nilFunc, Value.oneCell', Option.isNone]
      exact intoR_refl (Nat.le_refl _) (hbad hb)
    · have g1 : decide (a < 0) = false := decide_eq_false h0
      have g2 : decide (a ≥ nv) = true := decide_eq_true (by omega)
      simp -implicitDefEqProofs (maxSteps := 1000000) (disch := omega) only [↓vcB, ↓gd, ↓opP, ↓qv, ↓ef, ↓bslS, ↓stS, ↓mkS, ↓rangeS, ↓nextS, ↓entryS, ↓delS, ↓mupS, ↓appS, ↓s2bS, ↓resS, evB, Sx.look, slot, ↓lkL, putS, putO, argsL, ↓reduceIte, ofV, of1, lookH, putH, List.length_cons, List.length_nil, List.length_append, List.replicate, List.append, List.cons_append, List.nil_append, List.append_assoc, List.map_cons, List.map_nil, convS, fldA, nthT, idxA, idxS, fldS, oslN, bnd, slS, unS, valI, lenS, lookS, takeC, psB, asRow, csB, Int.toNat_natCast, Int.le_refl, and_self, rdF, Ent.row, ldS, sz, szL, wrF, bldF, plT, bldS, srcS, nilS, nilEq, mapC, binH, binS2, structS, eqL, eqF, binS, arrS, isI, tupS, stor, storL, Value.oneCell', minS, maxS, capS, true_and, and_true, Nat.reduceAdd, Nat.reduceSub, Nat.reduceMul, Nat.reduceLT, Nat.reduceLeDiff, Nat.reduceEqDiff, Nat.reduceBEq, Int.reduceToNat, Int.reduceNeg, Nat.zero_add, Nat.add_zero, Nat.sub_self, Nat.sub_zero, Nat.zero_mul, Nat.mul_one, Nat.zero_le, if_true, if_false, reduceIte, stays, inL, same1, qn, ldN, convN, lenN, List.mem_cons, List.not_mem_nil, Option.map_some, Option.map_none, cond_true, cond_false, Sx.imp_true, Sx.imp_false, implies_true, Int.reduceEq, Int.reduceNe, Int.reduceLE, Int.reduceLT, decide_true, decide_false, List.zipIdx_cons, List.zipIdx_nil, or_false, false_or, forall_eq_or_imp, forall_eq, ne_eq, reduceCtorEq, not_false_eq_true, Bool.false_eq_true, Bool.true_eq_false, Bool.not_true, Bool.not_false, notInt, numB, tabB, Array.reduceGetElem?, upG, up, nth, lay, rcB, rnm, rnmL, wrB, pcB, res70, pl70, g1, g2, hp, csz_nilFunc, Value.oneCell', Option.isNone]
      exact intoR_refl (Nat.le_refl _) (hbad hb)
  · have g1 : decide (a < 0) = false := decide_eq_false (by omega)
    have g2 : decide (a ≥ nv) = false := decide_eq_false (by omega)
    have hok := hok (by omega) (by omega)
    unfold addT newT at hok
    simp -implicitDefEqProofs (maxSteps := 1000000) (disch := omega) only [↓vcB, ↓gd, ↓opP, ↓qv, ↓ef, ↓bslS, ↓stS, ↓mkS, ↓rangeS, ↓nextS, ↓entryS, ↓delS, ↓mupS, ↓appS, ↓s2bS, ↓resS, evB, Sx.look, slot, ↓lkL, putS, putO, argsL, ↓reduceIte, ofV, of1, lookH, putH, List.length_cons, List.length_nil, List.length_append, List.replicate, List.append, List.cons_append, List.nil_append, List.append_assoc, List.map_cons, List.map_nil, convS, fldA, nthT, idxA, idxS, fldS, oslN, bnd, slS, unS, valI, lenS, lookS, takeC, psB, asRow, csB, Int.toNat_natCast, Int.le_refl, and_self, rdF, Ent.row, ldS, sz, szL, wrF, bldF, plT, bldS, srcS, nilS, nilEq, mapC, binH, binS2, structS, eqL, eqF, binS, arrS, isI, tupS, stor, storL, Value.oneCell', minS, maxS, capS, true_and, and_true, Nat.reduceAdd, Nat.reduceSub, Nat.reduceMul, Nat.reduceLT, Nat.reduceLeDiff, Nat.reduceEqDiff, Nat.reduceBEq, Int.reduceToNat, Int.reduceNeg, Nat.zero_add, Nat.add_zero, Nat.sub_self, Nat.sub_zero, Nat.zero_mul, Nat.mul_one, Nat.zero_le, if_true, if_false, reduceIte, stays, inL, same1, qn, ldN, convN, lenN, List.mem_cons, List.not_mem_nil, Option.map_some, Option.map_none, cond_true, cond_false, Sx.imp_true, Sx.imp_false, implies_true, Int.reduceEq, Int.reduceNe, Int.reduceLE, Int.reduceLT, decide_true, decide_false, List.zipIdx_cons, List.zipIdx_nil, or_false, false_or, forall_eq_or_imp, forall_eq, ne_eq, reduceCtorEq, not_false_eq_true, Bool.false_eq_true, Bool.true_eq_false, Bool.not_true, Bool.not_false, notInt, numB, tabB, Array.reduceGetElem?, upG, up, nth, lay, rcB, rnm, rnmL, wrB, pcB, res70, pl70, g1, g2, hp, csz_nilFunc, Value.oneCell', Option.isNone]
    refine c93W x hv _ ?_
    cases hq : (ks T).findIdx? (x == ·) with
    | some i =>
      rw [hq] at hok
      obtain ⟨hi0, hx⟩ := find_some hq
      have hi : i < T.length := by rwa [ks_len] at hi0
      simp -implicitDefEqProofs (maxSteps := 1000000) (disch := omega) only [↓vcB, ↓gd, ↓opP, ↓qv, ↓ef, ↓bslS, ↓stS, ↓mkS, ↓rangeS, ↓nextS, ↓entryS, ↓delS, ↓mupS, ↓appS, ↓s2bS, ↓resS, evB, Sx.look, slot, ↓lkL, putS, putO, argsL, ↓reduceIte, ofV, of1, lookH, putH, List.length_cons, List.length_nil, List.length_append, List.replicate, List.append, List.cons_append, List.nil_append, List.append_assoc, List.map_cons, List.map_nil, convS, fldA, nthT, idxA, idxS, fldS, oslN, bnd, slS, unS, valI, lenS, lookS, takeC, psB, asRow, csB, Int.toNat_natCast, Int.le_refl, and_self, rdF, Ent.row, ldS, sz, szL, wrF, bldF, plT, bldS, srcS, nilS, nilEq, mapC, binH, binS2, structS, eqL, eqF, binS, arrS, isI, tupS, stor, storL, Value.oneCell', minS, maxS, capS, true_and, and_true, Nat.reduceAdd, Nat.reduceSub, Nat.reduceMul, Nat.reduceLT, Nat.reduceLeDiff, Nat.reduceEqDiff, Nat.reduceBEq, Int.reduceToNat, Int.reduceNeg, Nat.zero_add, Nat.add_zero, Nat.sub_self, Nat.sub_zero, Nat.zero_mul, Nat.mul_one, Nat.zero_le, if_true, if_false, reduceIte, stays, inL, same1, qn, ldN, convN, lenN, List.mem_cons, List.not_mem_nil, Option.map_some, Option.map_none, cond_true, cond_false, Sx.imp_true, Sx.imp_false, implies_true, Int.reduceEq, Int.reduceNe, Int.reduceLE, Int.reduceLT, decide_true, decide_false, List.zipIdx_cons, List.zipIdx_nil, or_false, false_or, forall_eq_or_imp, forall_eq, ne_eq, reduceCtorEq, not_false_eq_true, Bool.false_eq_true, Bool.true_eq_false, Bool.not_true, Bool.not_false, notInt, numB, tabB, Array.reduceGetElem?, upG, up, nth, lay, rcB, rnm, rnmL, wrB, pcB, res70, pl70, g1, g2, hp, csz_nilFunc, Value.oneCell', Option.isNone]
      by_cases ha : a ∈ vs T i
      · refine c51p a (vs T i) _ (W.s i) (W.t i) true (W.bs i) (W.cs i) (hv.set i hi) (hv.mp i hi) ha _ ?_
        simp -implicitDefEqProofs (maxSteps := 1000000) (disch := omega) only [↓vcB, ↓gd, ↓opP, ↓qv, ↓ef, ↓bslS, ↓stS, ↓mkS, ↓rangeS, ↓nextS, ↓entryS, ↓delS, ↓mupS, ↓appS, ↓s2bS, ↓resS, evB, Sx.look, slot, ↓lkL, putS, putO, argsL, ↓reduceIte, ofV, of1, lookH, putH, List.length_cons, List.length_nil, List.length_append, List.replicate, List.append, List.cons_append, List.nil_append, List.append_assoc, List.map_cons, List.map_nil, convS, fldA, nthT, idxA, idxS, fldS, oslN, bnd, slS, unS, valI, lenS, lookS, takeC, psB, asRow, csB, Int.toNat_natCast, Int.le_refl, and_self, rdF, Ent.row, ldS, sz, szL, wrF, bldF, plT, bldS, srcS, nilS, nilEq, mapC, binH, binS2, structS, eqL, eqF, binS, arrS, isI, tupS, stor, storL, Value.oneCell', minS, maxS, capS, true_and, and_true, Nat.reduceAdd, Nat.reduceSub, Nat.reduceMul, Nat.reduceLT, Nat.reduceLeDiff, Nat.reduceEqDiff, Nat.reduceBEq, Int.reduceToNat, Int.reduceNeg, Nat.zero_add, Nat.add_zero, Nat.sub_self, Nat.sub_zero, Nat.zero_mul, Nat.mul_one, Nat.zero_le, if_true, if_false, reduceIte, stays, inL, same1, qn, ldN, convN, lenN, List.mem_cons, List.not_mem_nil, Option.map_some, Option.map_none, cond_true, cond_false, Sx.imp_true, Sx.imp_false, implies_true, Int.reduceEq, Int.reduceNe, Int.reduceLE, Int.reduceLT, decide_true, decide_false, List.zipIdx_cons, List.zipIdx_nil, or_false, false_or, forall_eq_or_imp, forall_eq, ne_eq, reduceCtorEq, not_false_eq_true, Bool.false_eq_true, Bool.true_eq_false, Bool.not_true, Bool.not_false, notInt, numB, tabB, Array.reduceGetElem?, upG, up, nth, lay, rcB, rnm, rnmL, wrB, pcB, res70, pl70, g1, g2, hp, csz_nilFunc, Value.oneCell', Option.isNone]
        have d1 : decide (a ∉ vs T i) = false := decide_eq_false (fun h => h ha)
        simp only [if_pos ha, d1] at hok
        exact intoR_refl (Nat.le_refl _) (hok h W hv (Ext.refl _ _) fun k hk => .inl hk)
      · refine callP_sim (c51a a (vs T i) _ (W.s i) (W.t i) true (W.bs i) (W.cs i) (hv.set i hi) (hv.mp i hi) ha _ ?_)
        refine ⟨putH h (W.t i) (.map (vs T i ++ [a]).length (fun j => .int .i64 ((vs T i ++ [a]).getD j default)) (fun _ => .int .i64 1) (fun j => if j < (vs T i).length then W.bs i j else W.cs i) (W.cs i + 1)), ?_, Sim.put ?_ (lookH_lt (hv.mp i hi) (mpR_ne _ _ _ _ _ _))⟩
        · simp -implicitDefEqProofs (maxSteps := 1000000) (disch := omega) only [↓vcB, ↓gd, ↓opP, ↓qv, ↓ef, ↓bslS, ↓stS, ↓mkS, ↓rangeS, ↓nextS, ↓entryS, ↓delS, ↓mupS, ↓appS, ↓s2bS, ↓resS, evB, Sx.look, slot, ↓lkL, putS, putO, argsL, ↓reduceIte, ofV, of1, lookH, putH, List.length_cons, List.length_nil, List.length_append, List.replicate, List.append, List.cons_append, List.nil_append, List.append_assoc, List.map_cons, List.map_nil, convS, fldA, nthT, idxA, idxS, fldS, oslN, bnd, slS, unS, valI, lenS, lookS, takeC, psB, asRow, csB, Int.toNat_natCast, Int.le_refl, and_self, rdF, Ent.row, ldS, sz, szL, wrF, bldF, plT, bldS, srcS, nilS, nilEq, mapC, binH, binS2, structS, eqL, eqF, binS, arrS, isI, tupS, stor, storL, Value.oneCell', minS, maxS, capS, true_and, and_true, Nat.reduceAdd, Nat.reduceSub, Nat.reduceMul, Nat.reduceLT, Nat.reduceLeDiff, Nat.reduceEqDiff, Nat.reduceBEq, Int.reduceToNat, Int.reduceNeg, Nat.zero_add, Nat.add_zero, Nat.sub_self, Nat.sub_zero, Nat.zero_mul, Nat.mul_one, Nat.zero_le, if_true, if_false, reduceIte, stays, inL, same1, qn, ldN, convN, lenN, List.mem_cons, List.not_mem_nil, Option.map_some, Option.map_none, cond_true, cond_false, Sx.imp_true, Sx.imp_false, implies_true, Int.reduceEq, Int.reduceNe, Int.reduceLE, Int.reduceLT, decide_true, decide_false, List.zipIdx_cons, List.zipIdx_nil, or_false, false_or, forall_eq_or_imp, forall_eq, ne_eq, reduceCtorEq, not_false_eq_true, Bool.false_eq_true, Bool.true_eq_false, Bool.not_true, Bool.not_false, notInt, numB, tabB, Array.reduceGetElem?, upG, up, nth, lay, rcB, rnm, rnmL, wrB, pcB, res70, pl70, g1, g2, hp, csz_nilFunc, Value.oneCell', Option.isNone]
          have d1 : decide (a ∉ vs T i) = true := decide_eq_true ha
          simp only [if_neg ha, d1] at hok
          have hgr := hv.grow hi hx ha
          rw [List.length_append, List.length_singleton] at hgr
          refine intoR_refl (by rw [putH_len]; exact Nat.le_refl _) (hok _ _ hgr ((Ext.refl _ _).put _ (.inl (.inr (.inr ⟨i, hi, .inr rfl⟩)))) fun k hk => .inl ?_)
          rcases hk with h1 | ⟨_, h1⟩ | ⟨j, hj, h1⟩
          · exact .inl h1
          · exact .inr (.inl ⟨(fun e => by rw [e] at hi; cases hi), h1⟩)
          · exact .inr (.inr ⟨j, by simpa using hj, h1⟩)
        · rw [List.length_append, List.length_singleton]
          refine ⟨_, _, _, rfl, fun j hj => ⟨?_, rfl, rfl⟩⟩
          by_cases e : j < (vs T i).length
          · simp only [if_pos e, List.getD_eq_getElem?_getD, List.getElem?_append_left e]
          · obtain rfl : j = (vs T i).length := by omega
            simp
    | none =>
      rw [hq] at hok
      have hx : x ∉ ks T := find_none.1 hq
      simp -implicitDefEqProofs (maxSteps := 1000000) (disch := omega) only [↓vcB, ↓gd, ↓opP, ↓qv, ↓ef, ↓bslS, ↓stS, ↓mkS, ↓rangeS, ↓nextS, ↓entryS, ↓delS, ↓mupS, ↓appS, ↓s2bS, ↓resS, evB, Sx.look, slot, ↓lkL, putS, putO, argsL, ↓reduceIte, ofV, of1, lookH, putH, List.length_cons, List.length_nil, List.length_append, List.replicate, List.append, List.cons_append, List.nil_append, List.append_assoc, List.map_cons, List.map_nil, convS, fldA, nthT, idxA, idxS, fldS, oslN, bnd, slS, unS, valI, lenS, lookS, takeC, psB, asRow, csB, Int.toNat_natCast, Int.le_refl, and_self, rdF, Ent.row, ldS, sz, szL, wrF, bldF, plT, bldS, srcS, nilS, nilEq, mapC, binH, binS2, structS, eqL, eqF, binS, arrS, isI, tupS, stor, storL, Value.oneCell', minS, maxS, capS, true_and, and_true, Nat.reduceAdd, Nat.reduceSub, Nat.reduceMul, Nat.reduceLT, Nat.reduceLeDiff, Nat.reduceEqDiff, Nat.reduceBEq, Int.reduceToNat, Int.reduceNeg, Nat.zero_add, Nat.add_zero, Nat.sub_self, Nat.sub_zero, Nat.zero_mul, Nat.mul_one, Nat.zero_le, if_true, if_false, reduceIte, stays, inL, same1, qn, ldN, convN, lenN, List.mem_cons, List.not_mem_nil, Option.map_some, Option.map_none, cond_true, cond_false, Sx.imp_true, Sx.imp_false, implies_true, Int.reduceEq, Int.reduceNe, Int.reduceLE, Int.reduceLT, decide_true, decide_false, List.zipIdx_cons, List.zipIdx_nil, or_false, false_or, forall_eq_or_imp, forall_eq, ne_eq, reduceCtorEq, not_false_eq_true, Bool.false_eq_true, Bool.true_eq_false, Bool.not_true, Bool.not_false, notInt, numB, tabB, Array.reduceGetElem?, upG, up, nth, lay, rcB, rnm, rnmL, wrB, pcB, res70, pl70, g1, g2, hp, csz_nilFunc, Value.oneCell', Option.isNone]
      refine c50n _ _ ?_
      simp -implicitDefEqProofs (maxSteps := 1000000) (disch := omega) only [↓vcB, ↓gd, ↓opP, ↓qv, ↓ef, ↓bslS, ↓stS, ↓mkS, ↓rangeS, ↓nextS, ↓entryS, ↓delS, ↓mupS, ↓appS, ↓s2bS, ↓resS, evB, Sx.look, slot, ↓lkL, putS, putO, argsL, ↓reduceIte, ofV, of1, lookH, putH, List.length_cons, List.length_nil, List.length_append, List.replicate, List.append, List.cons_append, List.nil_append, List.append_assoc, List.map_cons, List.map_nil, convS, fldA, nthT, idxA, idxS, fldS, oslN, bnd, slS, unS, valI, lenS, lookS, takeC, psB, asRow, csB, Int.toNat_natCast, Int.le_refl, and_self, rdF, Ent.row, ldS, sz, szL, wrF, bldF, plT, bldS, srcS, nilS, nilEq, mapC, binH, binS2, structS, eqL, eqF, binS, arrS, isI, tupS, stor, storL, Value.oneCell', minS, maxS, capS, true_and, and_true, Nat.reduceAdd, Nat.reduceSub, Nat.reduceMul, Nat.reduceLT, Nat.reduceLeDiff, Nat.reduceEqDiff, Nat.reduceBEq, Int.reduceToNat, Int.reduceNeg, Nat.zero_add, Nat.add_zero, Nat.sub_self, Nat.sub_zero, Nat.zero_mul, Nat.mul_one, Nat.zero_le, if_true, if_false, reduceIte, stays, inL, same1, qn, ldN, convN, lenN, List.mem_cons, List.not_mem_nil, Option.map_some, Option.map_none, cond_true, cond_false, Sx.imp_true, Sx.imp_false, implies_true, Int.reduceEq, Int.reduceNe, Int.reduceLE, Int.reduceLT, decide_true, decide_false, List.zipIdx_cons, List.zipIdx_nil, or_false, false_or, forall_eq_or_imp, forall_eq, ne_eq, reduceCtorEq, not_false_eq_true, Bool.false_eq_true, Bool.true_eq_false, Bool.not_true, Bool.not_false, notInt, numB, tabB, Array.reduceGetElem?, upG, up, nth, lay, rcB, rnm, rnmL, wrB, pcB, res70, pl70, g1, g2, hp, csz_nilFunc, Value.oneCell', Option.isNone]
      obtain ⟨h1, hh1⟩ : ∃ h1, h1 = h ++ [Chunk.cells true [.v (.map none)]] := ⟨_, rfl⟩
      rw [← hh1]
      have l1 : h1.length = h.length + 1 := by rw [hh1]; simp
      have o1 : ∀ {k}, k < h.length → lookH h1 k = lookH h k := fun hk => by rw [hh1]; exact lookH_at _ hk
      have e1 : lookH h1 h.length = .cells true [.v (.map none)] := by rw [hh1]; exact lookH_app0 _ _
      have hpl := foot_lt hv (k := p) (.inl rfl)
      by_cases hT : T = []
      · have hp1 : lookH h1 p = .cells true [.int .i64 nv, .v (.map none)] := (o1 hpl).trans (hv.nil hT)
        refine c94n x _ nv h1 p hp1 _ ?_
        obtain ⟨h2, hh2⟩ : ∃ h2, h2 = putH h1 p (.cells true [.int .i64 nv, .mp h1.length]) ++ [.map 1 (fun _ => sS x) (fun _ => .ptr h.length 0) (fun _ => 0) 1] := ⟨_, rfl⟩
        rw [← hh2]
        have l2 : h2.length = h.length + 2 := by rw [hh2, List.length_append, putH_len, l1]; rfl
        have o2 : ∀ {k}, k < h1.length → k ≠ p → lookH h2 k = lookH h1 k := fun hk hn => by rw [hh2, lookH_at _ (by rw [putH_len]; exact hk), lookH_put_ne _ hn]
        have e2 : lookH h2 h.length = .cells true [.v (.map none)] := (o2 (by omega) (by omega)).trans e1
        simp -implicitDefEqProofs (maxSteps := 1000000) (disch := omega) only [↓vcB, ↓gd, ↓opP, ↓qv, ↓ef, ↓bslS, ↓stS, ↓mkS, ↓rangeS, ↓nextS, ↓entryS, ↓delS, ↓mupS, ↓appS, ↓s2bS, ↓resS, evB, Sx.look, slot, ↓lkL, putS, putO, argsL, ↓reduceIte, ofV, of1, lookH, putH, List.length_cons, List.length_nil, List.length_append, List.replicate, List.append, List.cons_append, List.nil_append, List.append_assoc, List.map_cons, List.map_nil, convS, fldA, nthT, idxA, idxS, fldS, oslN, bnd, slS, unS, valI, lenS, lookS, takeC, psB, asRow, csB, Int.toNat_natCast, Int.le_refl, and_self, rdF, Ent.row, ldS, sz, szL, wrF, bldF, plT, bldS, srcS, nilS, nilEq, mapC, binH, binS2, structS, eqL, eqF, binS, arrS, isI, tupS, stor, storL, Value.oneCell', minS, maxS, capS, true_and, and_true, Nat.reduceAdd, Nat.reduceSub, Nat.reduceMul, Nat.reduceLT, Nat.reduceLeDiff, Nat.reduceEqDiff, Nat.reduceBEq, Int.reduceToNat, Int.reduceNeg, Nat.zero_add, Nat.add_zero, Nat.sub_self, Nat.sub_zero, Nat.zero_mul, Nat.mul_one, Nat.zero_le, if_true, if_false, reduceIte, stays, inL, same1, qn, ldN, convN, lenN, List.mem_cons, List.not_mem_nil, Option.map_some, Option.map_none, cond_true, cond_false, Sx.imp_true, Sx.imp_false, implies_true, Int.reduceEq, Int.reduceNe, Int.reduceLE, Int.reduceLT, decide_true, decide_false, List.zipIdx_cons, List.zipIdx_nil, or_false, false_or, forall_eq_or_imp, forall_eq, ne_eq, reduceCtorEq, not_false_eq_true, Bool.false_eq_true, Bool.true_eq_false, Bool.not_true, Bool.not_false, notInt, numB, tabB, Array.reduceGetElem?, upG, up, nth, lay, rcB, rnm, rnmL, wrB, pcB, res70, pl70, g1, g2, hp, csz_nilFunc, Value.oneCell', Option.isNone]
        refine callP_sim (c51n a h2 h.length e2 _ ?_)
        obtain ⟨h3, hh3⟩ : ∃ h3, h3 = putH h2 h.length (.cells true [.mp h2.length]) ++ [.map 1 (fun _ => .int .i64 a) (fun _ => .int .i64 1) (fun _ => 0) 1] := ⟨_, rfl⟩
        rw [← hh3]
        have l3 : h3.length = h.length + 3 := by rw [hh3, List.length_append, putH_len, l2]; rfl
        have f1 : lookH h3 p = .cells true [.int .i64 nv, .mp h1.length] := by rw [hh3, lookH_at _ (by rw [putH_len]; omega), lookH_put_ne _ (by omega), hh2, lookH_at _ (by rw [putH_len]; omega), lookH_put_same _ (by omega)]
        have f2 : lookH h3 h1.length = .map 1 (fun _ => sS x) (fun _ => .ptr h.length 0) (fun _ => 0) 1 := by
          rw [hh3, lookH_at _ (by rw [putH_len]; omega), lookH_put_ne _ (by omega), hh2]
          have q := lookH_app0 [Chunk.map 1 (fun _ => sS x) (fun _ => .ptr h.length 0) (fun _ => 0) 1] (putH h1 p (.cells true [.int .i64 nv, .mp h1.length]))
          rw [putH_len] at q
          exact q
        have f3 : lookH h3 h.length = .cells true [.mp h2.length] := by rw [hh3, lookH_at _ (by rw [putH_len]; omega), lookH_put_same _ (by omega)]
        have f4 : lookH h3 h2.length = .map 1 (fun _ => .int .i64 a) (fun _ => .int .i64 1) (fun _ => 0) 1 := by
          rw [hh3]
          have q := lookH_app0 [Chunk.map 1 (fun _ => .int .i64 a) (fun _ => .int .i64 1) (fun _ => 0) 1] (putH h2 h.length (.cells true [.mp h2.length]))
          rw [putH_len] at q
          exact q
        have hst := VotesW.start x a f1 f2 f3 f4 rfl
        refine ⟨putH (putH h3 h1.length (.map 1 (fun j => sS ([x].getD j default)) (fun _ => .ptr h.length 0) (fun _ => 0) 1)) h2.length (.map 1 (fun j => .int .i64 ([a].getD j default)) (fun _ => .int .i64 1) (fun _ => 0) 1), ?_, ?_⟩
        · simp -implicitDefEqProofs (maxSteps := 1000000) (disch := omega) only [↓vcB, ↓gd, ↓opP, ↓qv, ↓ef, ↓bslS, ↓stS, ↓mkS, ↓rangeS, ↓nextS, ↓entryS, ↓delS, ↓mupS, ↓appS, ↓s2bS, ↓resS, evB, Sx.look, slot, ↓lkL, putS, putO, argsL, ↓reduceIte, ofV, of1, lookH, putH, List.length_cons, List.length_nil, List.length_append, List.replicate, List.append, List.cons_append, List.nil_append, List.append_assoc, List.map_cons, List.map_nil, convS, fldA, nthT, idxA, idxS, fldS, oslN, bnd, slS, unS, valI, lenS, lookS, takeC, psB, asRow, csB, Int.toNat_natCast, Int.le_refl, and_self, rdF, Ent.row, ldS, sz, szL, wrF, bldF, plT, bldS, srcS, nilS, nilEq, mapC, binH, binS2, structS, eqL, eqF, binS, arrS, isI, tupS, stor, storL, Value.oneCell', minS, maxS, capS, true_and, and_true, Nat.reduceAdd, Nat.reduceSub, Nat.reduceMul, Nat.reduceLT, Nat.reduceLeDiff, Nat.reduceEqDiff, Nat.reduceBEq, Int.reduceToNat, Int.reduceNeg, Nat.zero_add, Nat.add_zero, Nat.sub_self, Nat.sub_zero, Nat.zero_mul, Nat.mul_one, Nat.zero_le, if_true, if_false, reduceIte, stays, inL, same1, qn, ldN, convN, lenN, List.mem_cons, List.not_mem_nil, Option.map_some, Option.map_none, cond_true, cond_false, Sx.imp_true, Sx.imp_false, implies_true, Int.reduceEq, Int.reduceNe, Int.reduceLE, Int.reduceLT, decide_true, decide_false, List.zipIdx_cons, List.zipIdx_nil, or_false, false_or, forall_eq_or_imp, forall_eq, ne_eq, reduceCtorEq, not_false_eq_true, Bool.false_eq_true, Bool.true_eq_false, Bool.not_true, Bool.not_false, notInt, numB, tabB, Array.reduceGetElem?, upG, up, nth, lay, rcB, rnm, rnmL, wrB, pcB, res70, pl70, g1, g2, hp, csz_nilFunc, Value.oneCell', Option.isNone]
          subst hT
          simp only at hok
          refine intoR_refl (by rw [putH_len, putH_len]; omega) (hok _ _ hst ?_ ?_)
          · refine Ext.put (Ext.put ?_ _ (.inr (by omega))) _ (.inr (by omega))
            rw [hh3]
            refine Ext.app (Ext.put ?_ _ (.inr (by omega))) _
            rw [hh2]
            refine Ext.app (Ext.put ?_ _ (.inl (.inl rfl))) _
            rw [hh1]
            exact (Ext.refl _ _).app _
          · rintro k (h1 | ⟨_, h1⟩ | ⟨j, hj, h1 | h1⟩)
            · exact .inl (.inl h1)
            · simp only at h1
              exact .inr (by omega)
            · simp only at h1
              exact .inr (by omega)
            · simp only at h1
              exact .inr (by omega)
        · refine sim_trans (Sim.put1 f2 ?_ (by omega)) (Sim.put1 (p := h2.length) (c := .map 1 (fun _ => .int .i64 a) (fun _ => .int .i64 1) (fun _ => 0) 1) (by rw [lookH_put_ne _ (by omega)]; exact f4) ?_ (by rw [putH_len]; omega))
          · refine ⟨_, _, _, rfl, fun j hj => ⟨?_, rfl, rfl⟩⟩
            obtain rfl : j = 0 := by omega
            rfl
          · refine ⟨_, _, _, rfl, fun j hj => ⟨?_, rfl, rfl⟩⟩
            obtain rfl : j = 0 := by omega
            rfl
      · have hml : W.m < h.length := foot_lt hv (.inr (.inl ⟨hT, rfl⟩))
        have hp1 : lookH h1 p = .cells true [.int .i64 nv, .mp W.m] := (o1 hpl).trans (hv.top hT)
        have hm1 : lookH h1 W.m = .map (ks T).length (fun i => sS ((ks T).getD i default)) (fun i => .ptr (W.s i) 0) W.born W.clock := (o1 hml).trans (hv.tab hT)
        refine c94a x _ (ks T) nv h1 p W.m true _ W.born W.clock hp1 hm1 hx _ ?_
        obtain ⟨h2, hh2⟩ : ∃ h2, h2 = putH h1 W.m (.map ((ks T).length + 1) (fun j => if j < (ks T).length then sS ((ks T).getD j default) else sS x) (fun j => if j < (ks T).length then .ptr (W.s j) 0 else .ptr h.length 0) (fun j => if j < (ks T).length then W.born j else W.clock) (W.clock + 1)) := ⟨_, rfl⟩
        rw [← hh2]
        have l2 : h2.length = h.length + 1 := by rw [hh2, putH_len, l1]
        have o2 : ∀ {k}, k ≠ W.m → lookH h2 k = lookH h1 k := fun hn => by rw [hh2, lookH_put_ne _ hn]
        have e2 : lookH h2 h.length = .cells true [.v (.map none)] := (o2 (by omega)).trans e1
        simp -implicitDefEqProofs (maxSteps := 1000000) (disch := omega) only [↓vcB, ↓gd, ↓opP, ↓qv, ↓ef, ↓bslS, ↓stS, ↓mkS, ↓rangeS, ↓nextS, ↓entryS, ↓delS, ↓mupS, ↓appS, ↓s2bS, ↓resS, evB, Sx.look, slot, ↓lkL, putS, putO, argsL, ↓reduceIte, ofV, of1, lookH, putH, List.length_cons, List.length_nil, List.length_append, List.replicate, List.append, List.cons_append, List.nil_append, List.append_assoc, List.map_cons, List.map_nil, convS, fldA, nthT, idxA, idxS, fldS, oslN, bnd, slS, unS, valI, lenS, lookS, takeC, psB, asRow, csB, Int.toNat_natCast, Int.le_refl, and_self, rdF, Ent.row, ldS, sz, szL, wrF, bldF, plT, bldS, srcS, nilS, nilEq, mapC, binH, binS2, structS, eqL, eqF, binS, arrS, isI, tupS, stor, storL, Value.oneCell', minS, maxS, capS, true_and, and_true, Nat.reduceAdd, Nat.reduceSub, Nat.reduceMul, Nat.reduceLT, Nat.reduceLeDiff, Nat.reduceEqDiff, Nat.reduceBEq, Int.reduceToNat, Int.reduceNeg, Nat.zero_add, Nat.add_zero, Nat.sub_self, Nat.sub_zero, Nat.zero_mul, Nat.mul_one, Nat.zero_le, if_true, if_false, reduceIte, stays, inL, same1, qn, ldN, convN, lenN, List.mem_cons, List.not_mem_nil, Option.map_some, Option.map_none, cond_true, cond_false, Sx.imp_true, Sx.imp_false, implies_true, Int.reduceEq, Int.reduceNe, Int.reduceLE, Int.reduceLT, decide_true, decide_false, List.zipIdx_cons, List.zipIdx_nil, or_false, false_or, forall_eq_or_imp, forall_eq, ne_eq, reduceCtorEq, not_false_eq_true, Bool.false_eq_true, Bool.true_eq_false, Bool.not_true, Bool.not_false, notInt, numB, tabB, Array.reduceGetElem?, upG, up, nth, lay, rcB, rnm, rnmL, wrB, pcB, res70, pl70, g1, g2, hp, csz_nilFunc, Value.oneCell', Option.isNone]
        refine callP_sim (c51n a h2 h.length e2 _ ?_)
        obtain ⟨h3, hh3⟩ : ∃ h3, h3 = putH h2 h.length (.cells true [.mp h2.length]) ++ [.map 1 (fun _ => .int .i64 a) (fun _ => .int .i64 1) (fun _ => 0) 1] := ⟨_, rfl⟩
        rw [← hh3]
        have l3 : h3.length = h.length + 2 := by rw [hh3, List.length_append, putH_len, l2]; rfl
        have f2 : lookH h3 W.m = .map ((ks T).length + 1) (fun j => if j < (ks T).length then sS ((ks T).getD j default) else sS x) (fun j => if j < (ks T).length then .ptr (W.s j) 0 else .ptr h.length 0) (fun j => if j < (ks T).length then W.born j else W.clock) (W.clock + 1) := by
          rw [hh3, lookH_at _ (by rw [putH_len]; omega), lookH_put_ne _ (by omega), hh2, lookH_put_same _ (by omega)]
        have f3 : lookH h3 h.length = .cells true [.mp (h.length + 1)] := by rw [hh3, lookH_at _ (by rw [putH_len]; omega), lookH_put_same _ (by omega), l2]
        have f4 : lookH h3 (h.length + 1) = .map 1 (fun _ => .int .i64 a) (fun _ => .int .i64 1) (fun _ => 0) 1 := by
          rw [hh3]
          have q := lookH_app0 [Chunk.map 1 (fun _ => .int .i64 a) (fun _ => .int .i64 1) (fun _ => 0) 1] (putH h2 h.length (.cells true [.mp h2.length]))
          rw [putH_len, show h2.length = h.length + 1 from l2] at q
          rw [show Chunk.cells true [SV.mp h2.length] = .cells true [.mp (h.length + 1)] by rw [l2]]
          exact q
        have f5 : ∀ {k}, k < h.length → k ≠ W.m → lookH h3 k = lookH h k := fun hk hn => by rw [hh3, lookH_at _ (by rw [putH_len]; omega), lookH_put_ne _ (by omega), o2 hn, o1 hk]
        refine ⟨putH (putH h3 W.m (.map (ks T ++ [x]).length (fun j => sS ((ks T ++ [x]).getD j default)) (fun j => .ptr (if j < T.length then W.s j else h.length) 0) (fun j => if j < T.length then W.born j else W.clock) (W.clock + 1))) (h.length + 1) (.map 1 (fun j => .int .i64 ([a].getD j default)) (fun _ => .int .i64 1) (fun _ => 0) 1), ?_, ?_⟩
        · have hst := hv.more hT hx a (h' := putH (putH h3 W.m (.map (ks T ++ [x]).length (fun j => sS ((ks T ++ [x]).getD j default)) (fun j => .ptr (if j < T.length then W.s j else h.length) 0) (fun j => if j < T.length then W.born j else W.clock) (W.clock + 1))) (h.length + 1) (.map 1 (fun j => .int .i64 ([a].getD j default)) (fun _ => .int .i64 1) (fun _ => 0) 1)) (by rw [putH_len, putH_len, l3])
            (by rw [lookH_put_ne _ (by omega), lookH_put_same _ (by omega)]) (by rw [lookH_put_ne _ (by omega), lookH_put_ne _ (by omega)]; exact f3) (by rw [lookH_put_same _ (by rw [putH_len]; omega)]) (fun k hk hn => by rw [lookH_put_ne _ (by omega), lookH_put_ne _ hn]; exact f5 hk hn)
          rw [List.length_append, List.length_singleton] at hst
          simp -implicitDefEqProofs (maxSteps := 1000000) (disch := omega) only [↓vcB, ↓gd, ↓opP, ↓qv, ↓ef, ↓bslS, ↓stS, ↓mkS, ↓rangeS, ↓nextS, ↓entryS, ↓delS, ↓mupS, ↓appS, ↓s2bS, ↓resS, evB, Sx.look, slot, ↓lkL, putS, putO, argsL, ↓reduceIte, ofV, of1, lookH, putH, List.length_cons, List.length_nil, List.length_append, List.replicate, List.append, List.cons_append, List.nil_append, List.append_assoc, List.map_cons, List.map_nil, convS, fldA, nthT, idxA, idxS, fldS, oslN, bnd, slS, unS, valI, lenS, lookS, takeC, psB, asRow, csB, Int.toNat_natCast, Int.le_refl, and_self, rdF, Ent.row, ldS, sz, szL, wrF, bldF, plT, bldS, srcS, nilS, nilEq, mapC, binH, binS2, structS, eqL, eqF, binS, arrS, isI, tupS, stor, storL, Value.oneCell', minS, maxS, capS, true_and, and_true, Nat.reduceAdd, Nat.reduceSub, Nat.reduceMul, Nat.reduceLT, Nat.reduceLeDiff, Nat.reduceEqDiff, Nat.reduceBEq, Int.reduceToNat, Int.reduceNeg, Nat.zero_add, Nat.add_zero, Nat.sub_self, Nat.sub_zero, Nat.zero_mul, Nat.mul_one, Nat.zero_le, if_true, if_false, reduceIte, stays, inL, same1, qn, ldN, convN, lenN, List.mem_cons, List.not_mem_nil, Option.map_some, Option.map_none, cond_true, cond_false, Sx.imp_true, Sx.imp_false, implies_true, Int.reduceEq, Int.reduceNe, Int.reduceLE, Int.reduceLT, decide_true, decide_false, List.zipIdx_cons, List.zipIdx_nil, or_false, false_or, forall_eq_or_imp, forall_eq, ne_eq, reduceCtorEq, not_false_eq_true, Bool.false_eq_true, Bool.true_eq_false, Bool.not_true, Bool.not_false, notInt, numB, tabB, Array.reduceGetElem?, upG, up, nth, lay, rcB, rnm, rnmL, wrB, pcB, res70, pl70, g1, g2, hp, csz_nilFunc, Value.oneCell', Option.isNone]
          simp only at hok
          refine intoR_refl (by rw [putH_len, putH_len]; omega) (hok _ _ hst ?_ ?_)
          · refine Ext.put (Ext.put ?_ _ (.inl (.inr (.inl ⟨hT, rfl⟩)))) _ (.inr (by omega))
            rw [hh3]
            refine Ext.app (Ext.put ?_ _ (.inr (by omega))) _
            rw [hh2]
            refine Ext.put ?_ _ (.inl (.inr (.inl ⟨hT, rfl⟩)))
            rw [hh1]
            exact (Ext.refl _ _).app _
          · rintro k (h1 | ⟨_, h1⟩ | ⟨j, hj, h1 | h1⟩)
            · exact .inl (.inl h1)
            · exact .inl (.inr (.inl ⟨hT, h1⟩))
            · simp only at h1
              split at h1
              · rename_i e; exact .inl (.inr (.inr ⟨j, e, .inl h1⟩))
              · exact .inr (by omega)
            · simp only at h1
              split at h1
              · rename_i e; exact .inl (.inr (.inr ⟨j, e, .inr h1⟩))
              · exact .inr (by omega)
        · refine sim_trans (Sim.put1 f2 ?_ (by omega)) (Sim.put1 (p := h.length + 1) (c := .map 1 (fun _ => .int .i64 a) (fun _ => .int .i64 1) (fun _ => 0) 1) (by rw [lookH_put_ne _ (by omega)]; exact f4) ?_ (by rw [putH_len]; omega))
          · rw [List.length_append, List.length_singleton]
            refine ⟨_, _, _, rfl, fun j hj => ?_⟩
            rw [ks_len] at hj ⊢
            by_cases e : j < T.length
            · have e2 : j < (ks T).length := by rw [ks_len]; exact e
              simp only [if_pos e, List.getD_eq_getElem?_getD, List.getElem?_append_left e2, and_self]
            · obtain rfl : j = T.length := by omega
              simp only [if_neg e, and_self, and_true]
              rw [List.getD_eq_getElem?_getD, List.getElem?_append_right (by rw [ks_len]; omega), ks_len]
              simp
          · refine ⟨_, _, _, rfl, fun j hj => ⟨?_, rfl, rfl⟩⟩
            obtain rfl : j = 0 := by omega
            rfl
end Go.Proofs.Ytloinbebkhcndaa
