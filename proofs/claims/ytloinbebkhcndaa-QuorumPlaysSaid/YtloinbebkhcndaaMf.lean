/- Texts put together: Contracts of functions that the laws reach, by the symbolic executor of the texts Sxa to Syg. No condition. -/
import Derived.Test.YtloinbebkhcndaaMe
import Derived.Test.YtloinbebkhcndaaMd
import Derived.Test.YtloinbebkhcndaaMc
set_option linter.all false
set_option maxRecDepth 40000
namespace Go.Proofs.Ytloinbebkhcndaa
open Go Go.Sx

theorem map_getD {α : Type} [Inhabited α] (L : List α) : ((List.range L.length).map fun i => L.getD i default) = L := by
  apply List.ext_getElem?
  intro i
  rw [List.getElem?_map]
  rcases Nat.lt_or_ge i L.length with hi | hi
  · rw [List.getElem?_range hi, List.getElem?_eq_getElem hi]
    simp [List.getD_eq_getElem?_getD, List.getElem?_eq_getElem hi]
  · rw [List.getElem?_eq_none (by simpa using hi), List.getElem?_eq_none hi]
    rfl

theorem res87 : Try.f87.results.toList = [.tmp 2] := rfl
theorem seqR104 {P : Pr} (hP : P.p = Try.prog) {qs : List Nat} {h : List Chunk} {k1 k2 : Nat} {w1 : Bool} {n : Nat} {ks : Nat → Int} {val : Nat → SV} {born : Nat → Nat} {clock : Nat} (hb : Bn n born clock) (h1 : lookH h k1 = .cells w1 [.mp k2]) (h2 : lookH h k2 = .map n (fun i => .int .i64 (ks i)) val born clock) (m1 : k1 ∈ qs) (m2 : k2 ∈ qs) :
    SeqR P qs h (.fn (.func 104) [] [.ptr k1 0]) (keyR n fun j => den (fun _ => ⟨0, 0, 0, true⟩) (.int .i64 (ks j))) (keyF n) := by
  intro ρ w X hk hH
  have q1 := hH k1 m1
  have q2 := hH k2 m2
  have r1 : Real ρ k1 (lookH h k1) := by rw [h1] at q1 ⊢; exact ⟨rfl, q1.1.1⟩
  have r2 : Real ρ k2 (lookH h k2) := by rw [h2] at q2 ⊢; exact ⟨rfl, q2.1.1⟩
  have hBs : ∀ b, (b = (ρ k1).b ∨ b = (ρ k2).b) → b < w.heap.size := by
    rintro b (rfl | rfl)
    · exact q1.2 r1
    · exact q2.2 r2
  rw [hP]
  refine ⟨104, denL ρ [.ptr k1 0], fun b => b = (ρ k1).b ∨ b = (ρ k2).b, rfl, ?_, ?_⟩
  · have e1 : denL ρ [.ptr k1 0] = denL (fun k => match k with | 0 => ρ k1 | _ => ρ k2) [.ptr 0 0] := rfl
    rw [e1]
    refine gives104 n ks (fun i => den ρ (val i)) born clock hb hBs ?_
    intro k c hc
    rcases k with _ | _ | k
    · cases hc
      rw [h1] at q1
      exact ⟨hold_cell q1.1 rfl rfl, fun _ => .inl rfl⟩
    · cases hc
      rw [h2] at q2
      exact ⟨q2.1, fun _ => .inr rfl⟩
    · simp at hc
  · rintro b (rfl | rfl)
    · exact .inr ⟨k1, m1, r1, rfl⟩
    · exact .inr ⟨k2, m2, r2, rfl⟩
theorem c87 (m : Nat) (h : List Chunk) (K : Tok → SV → List Chunk → Prop) (hK : K .mk (.fn (.func 104) [] [.ptr h.length 0]) (h ++ [.cells true [.mp m]])) : callP Try.prog 87 [.mp m] h K := by
  refine callP_of_code tabOk Try.func87 (by kernel_rfl) rfl (Nat.le_of_ble_eq_true rfl) (codeP_of_vc (pl := np) tabOk follows_mixed (by kernel_rfl) ?_)
  rw [Try.ntmps87]
  simp -implicitDefEqProofs (maxSteps := 1000000) (disch := omega) only [↓vcB, ↓gd, ↓opP, ↓qv, ↓ef, ↓bslS, ↓stS, ↓mkS, ↓rangeS, ↓nextS, ↓entryS, ↓delS, ↓mupS, ↓appS, ↓s2bS, ↓resS, evB, Sx.look, slot, ↓lkL, putS, putO, argsL, ↓reduceIte, ofV, of1, lookH, putH, List.length_cons, List.length_nil, List.length_append, List.replicate, List.append, List.cons_append, List.nil_append, List.append_assoc, List.map_cons, List.map_nil, convS, fldA, nthT, idxA, idxS, fldS, oslN, bnd, slS, unS, valI, lenS, lookS, takeC, psB, asRow, csB, Int.toNat_natCast, Int.le_refl, and_self, rdF, Ent.row, ldS, sz, szL, wrF, bldF, plT, bldS, srcS, nilS, nilEq, mapC, binH, binS2, structS, eqL, eqF, binS, arrS, isI, tupS, stor, storL, Value.oneCell', minS, maxS, capS, true_and, and_true, Nat.reduceAdd, Nat.reduceSub, Nat.reduceMul, Nat.reduceLT, Nat.reduceLeDiff, Nat.reduceEqDiff, Nat.reduceBEq, Int.reduceToNat, Int.reduceNeg, Nat.zero_add, Nat.add_zero, Nat.sub_self, Nat.sub_zero, Nat.zero_mul, Nat.mul_one, Nat.zero_le, if_true, if_false, reduceIte, stays, inL, same1, qn, ldN, convN, lenN, List.mem_cons, List.not_mem_nil, Option.map_some, Option.map_none, cond_true, cond_false, Sx.imp_true, Sx.imp_false, implies_true, Int.reduceEq, Int.reduceNe, Int.reduceLE, Int.reduceLT, decide_true, decide_false, List.zipIdx_cons, List.zipIdx_nil, or_false, false_or, forall_eq_or_imp, forall_eq, ne_eq, reduceCtorEq, not_false_eq_true, Bool.false_eq_true, Bool.true_eq_false, Bool.not_true, Bool.not_false, notInt, numB, tabB, Array.reduceGetElem?, upG, up, nth, lay, rcB, rnm, rnmL, wrB, pcB, res87, Value.oneCell']
  exact intoR_refl (by simp) hK
theorem res52 : Try.f52.results.toList = [.tmp 2] := rfl
theorem c52m (L : List Int) (hn : L.length ≤ 1000) (S : List Int) (hS : S = L.mergeSort fun x y => decide (x ≤ y)) (h : List Chunk) (p m : Nat) (w : Bool) (val : Nat → SV) (born : Nat → Nat) (clock : Nat) (hb : Bn L.length born clock) (hp : lookH h p = .cells w [.mp m]) (hm : lookH h m = .map L.length (fun i => .int .i64 (L.getD i default)) val born clock) (K : Tok → SV → List Chunk → Prop)
    (hK : K .mk (.fn (.func 100) [] [.ptr (h.length + 2) 0]) (h ++ [.cells true [.mp m], .row true S.length 1 fun i => .int .i64 (S.getD i default), .cells true [.osl (h.length + 1) 0 0 1 S.length]])) : callP Try.prog 52 [.ptr p 0] h K := by
  have hm1 : lookH (h ++ [.cells true [.mp m]]) m = .map L.length (fun i => .int .i64 (L.getD i default)) val born clock := lookH_old _ _ _ hm (by simp)
  have hk1 : lookH (h ++ [.cells true [.mp m]]) h.length = .cells true [.mp m] := lookH_app0 _ _
  refine callP_of_code tabOk Try.func52 (by kernel_rfl) rfl (Nat.le_of_ble_eq_true rfl) (codeP_of_vc (pl := np) tabOk follows_mixed (by kernel_rfl) ?_)
  rw [Try.ntmps52]
  simp -implicitDefEqProofs (maxSteps := 1000000) (disch := omega) only [↓vcB, ↓gd, ↓opP, ↓qv, ↓ef, ↓bslS, ↓stS, ↓mkS, ↓rangeS, ↓nextS, ↓entryS, ↓delS, ↓mupS, ↓appS, ↓s2bS, ↓resS, evB, Sx.look, slot, ↓lkL, putS, putO, argsL, ↓reduceIte, ofV, of1, lookH, putH, List.length_cons, List.length_nil, List.length_append, List.replicate, List.append, List.cons_append, List.nil_append, List.append_assoc, List.map_cons, List.map_nil, convS, fldA, nthT, idxA, idxS, fldS, oslN, bnd, slS, unS, valI, lenS, lookS, takeC, psB, asRow, csB, Int.toNat_natCast, Int.le_refl, and_self, rdF, Ent.row, ldS, sz, szL, wrF, bldF, plT, bldS, srcS, nilS, nilEq, mapC, binH, binS2, structS, eqL, eqF, binS, arrS, isI, tupS, stor, storL, Value.oneCell', minS, maxS, capS, true_and, and_true, Nat.reduceAdd, Nat.reduceSub, Nat.reduceMul, Nat.reduceLT, Nat.reduceLeDiff, Nat.reduceEqDiff, Nat.reduceBEq, Int.reduceToNat, Int.reduceNeg, Nat.zero_add, Nat.add_zero, Nat.sub_self, Nat.sub_zero, Nat.zero_mul, Nat.mul_one, Nat.zero_le, if_true, if_false, reduceIte, stays, inL, same1, qn, ldN, convN, lenN, List.mem_cons, List.not_mem_nil, Option.map_some, Option.map_none, cond_true, cond_false, Sx.imp_true, Sx.imp_false, implies_true, Int.reduceEq, Int.reduceNe, Int.reduceLE, Int.reduceLT, decide_true, decide_false, List.zipIdx_cons, List.zipIdx_nil, or_false, false_or, forall_eq_or_imp, forall_eq, ne_eq, reduceCtorEq, not_false_eq_true, Bool.false_eq_true, Bool.true_eq_false, Bool.not_true, Bool.not_false, notInt, numB, tabB, Array.reduceGetElem?, upG, up, nth, lay, rcB, rnm, rnmL, wrB, pcB, Option.isNone, res52, hp, hm]
  refine c87 m _ _ ?_
  simp -implicitDefEqProofs (maxSteps := 1000000) (disch := omega) only [↓vcB, ↓gd, ↓opP, ↓qv, ↓ef, ↓bslS, ↓stS, ↓mkS, ↓rangeS, ↓nextS, ↓entryS, ↓delS, ↓mupS, ↓appS, ↓s2bS, ↓resS, evB, Sx.look, slot, ↓lkL, putS, putO, argsL, ↓reduceIte, ofV, of1, lookH, putH, List.length_cons, List.length_nil, List.length_append, List.replicate, List.append, List.cons_append, List.nil_append, List.append_assoc, List.map_cons, List.map_nil, convS, fldA, nthT, idxA, idxS, fldS, oslN, bnd, slS, unS, valI, lenS, lookS, takeC, psB, asRow, csB, Int.toNat_natCast, Int.le_refl, and_self, rdF, Ent.row, ldS, sz, szL, wrF, bldF, plT, bldS, srcS, nilS, nilEq, mapC, binH, binS2, structS, eqL, eqF, binS, arrS, isI, tupS, stor, storL, Value.oneCell', minS, maxS, capS, true_and, and_true, Nat.reduceAdd, Nat.reduceSub, Nat.reduceMul, Nat.reduceLT, Nat.reduceLeDiff, Nat.reduceEqDiff, Nat.reduceBEq, Int.reduceToNat, Int.reduceNeg, Nat.zero_add, Nat.add_zero, Nat.sub_self, Nat.sub_zero, Nat.zero_mul, Nat.mul_one, Nat.zero_le, if_true, if_false, reduceIte, stays, inL, same1, qn, ldN, convN, lenN, List.mem_cons, List.not_mem_nil, Option.map_some, Option.map_none, cond_true, cond_false, Sx.imp_true, Sx.imp_false, implies_true, Int.reduceEq, Int.reduceNe, Int.reduceLE, Int.reduceLT, decide_true, decide_false, List.zipIdx_cons, List.zipIdx_nil, or_false, false_or, forall_eq_or_imp, forall_eq, ne_eq, reduceCtorEq, not_false_eq_true, Bool.false_eq_true, Bool.true_eq_false, Bool.not_true, Bool.not_false, notInt, numB, tabB, Array.reduceGetElem?, upG, up, nth, lay, rcB, rnm, rnmL, wrB, pcB, Option.isNone, res52, hp, hm]
  refine c86 (n := L.length) (ks := fun i => L.getD i default) hn (seqR104 rfl (qs := [h.length, m]) hb hk1 hm1 (by simp) (by simp)) S (by rw [map_getD]; exact hS) _ ?_
  simp -implicitDefEqProofs (maxSteps := 1000000) (disch := omega) only [↓vcB, ↓gd, ↓opP, ↓qv, ↓ef, ↓bslS, ↓stS, ↓mkS, ↓rangeS, ↓nextS, ↓entryS, ↓delS, ↓mupS, ↓appS, ↓s2bS, ↓resS, evB, Sx.look, slot, ↓lkL, putS, putO, argsL, ↓reduceIte, ofV, of1, lookH, putH, List.length_cons, List.length_nil, List.length_append, List.replicate, List.append, List.cons_append, List.nil_append, List.append_assoc, List.map_cons, List.map_nil, convS, fldA, nthT, idxA, idxS, fldS, oslN, bnd, slS, unS, valI, lenS, lookS, takeC, psB, asRow, csB, Int.toNat_natCast, Int.le_refl, and_self, rdF, Ent.row, ldS, sz, szL, wrF, bldF, plT, bldS, srcS, nilS, nilEq, mapC, binH, binS2, structS, eqL, eqF, binS, arrS, isI, tupS, stor, storL, Value.oneCell', minS, maxS, capS, true_and, and_true, Nat.reduceAdd, Nat.reduceSub, Nat.reduceMul, Nat.reduceLT, Nat.reduceLeDiff, Nat.reduceEqDiff, Nat.reduceBEq, Int.reduceToNat, Int.reduceNeg, Nat.zero_add, Nat.add_zero, Nat.sub_self, Nat.sub_zero, Nat.zero_mul, Nat.mul_one, Nat.zero_le, if_true, if_false, reduceIte, stays, inL, same1, qn, ldN, convN, lenN, List.mem_cons, List.not_mem_nil, Option.map_some, Option.map_none, cond_true, cond_false, Sx.imp_true, Sx.imp_false, implies_true, Int.reduceEq, Int.reduceNe, Int.reduceLE, Int.reduceLT, decide_true, decide_false, List.zipIdx_cons, List.zipIdx_nil, or_false, false_or, forall_eq_or_imp, forall_eq, ne_eq, reduceCtorEq, not_false_eq_true, Bool.false_eq_true, Bool.true_eq_false, Bool.not_true, Bool.not_false, notInt, numB, tabB, Array.reduceGetElem?, upG, up, nth, lay, rcB, rnm, rnmL, wrB, pcB, Option.isNone, res52, hp, hm]
  refine c75 _ _ S.length _ ?_
  simp -implicitDefEqProofs (maxSteps := 1000000) (disch := omega) only [↓vcB, ↓gd, ↓opP, ↓qv, ↓ef, ↓bslS, ↓stS, ↓mkS, ↓rangeS, ↓nextS, ↓entryS, ↓delS, ↓mupS, ↓appS, ↓s2bS, ↓resS, evB, Sx.look, slot, ↓lkL, putS, putO, argsL, ↓reduceIte, ofV, of1, lookH, putH, List.length_cons, List.length_nil, List.length_append, List.replicate, List.append, List.cons_append, List.nil_append, List.append_assoc, List.map_cons, List.map_nil, convS, fldA, nthT, idxA, idxS, fldS, oslN, bnd, slS, unS, valI, lenS, lookS, takeC, psB, asRow, csB, Int.toNat_natCast, Int.le_refl, and_self, rdF, Ent.row, ldS, sz, szL, wrF, bldF, plT, bldS, srcS, nilS, nilEq, mapC, binH, binS2, structS, eqL, eqF, binS, arrS, isI, tupS, stor, storL, Value.oneCell', minS, maxS, capS, true_and, and_true, Nat.reduceAdd, Nat.reduceSub, Nat.reduceMul, Nat.reduceLT, Nat.reduceLeDiff, Nat.reduceEqDiff, Nat.reduceBEq, Int.reduceToNat, Int.reduceNeg, Nat.zero_add, Nat.add_zero, Nat.sub_self, Nat.sub_zero, Nat.zero_mul, Nat.mul_one, Nat.zero_le, if_true, if_false, reduceIte, stays, inL, same1, qn, ldN, convN, lenN, List.mem_cons, List.not_mem_nil, Option.map_some, Option.map_none, cond_true, cond_false, Sx.imp_true, Sx.imp_false, implies_true, Int.reduceEq, Int.reduceNe, Int.reduceLE, Int.reduceLT, decide_true, decide_false, List.zipIdx_cons, List.zipIdx_nil, or_false, false_or, forall_eq_or_imp, forall_eq, ne_eq, reduceCtorEq, not_false_eq_true, Bool.false_eq_true, Bool.true_eq_false, Bool.not_true, Bool.not_false, notInt, numB, tabB, Array.reduceGetElem?, upG, up, nth, lay, rcB, rnm, rnmL, wrB, pcB, Option.isNone, res52, hp, hm]
  exact intoR_refl (by simp) hK
theorem c52z (h : List Chunk) (K : Tok → SV → List Chunk → Prop) (hK : K .mk (.fn (.func 101) [] []) h) : callP Try.prog 52 [.v (.pointer none)] h K := by
  refine callP_of_code tabOk Try.func52 (by kernel_rfl) rfl (Nat.le_of_ble_eq_true rfl) (codeP_of_vc (pl := np) tabOk follows_mixed (by kernel_rfl) ?_)
  rw [Try.ntmps52]
  simp -implicitDefEqProofs (maxSteps := 1000000) (disch := omega) only [↓vcB, ↓gd, ↓opP, ↓qv, ↓ef, ↓bslS, ↓stS, ↓mkS, ↓rangeS, ↓nextS, ↓entryS, ↓delS, ↓mupS, ↓appS, ↓s2bS, ↓resS, evB, Sx.look, slot, ↓lkL, putS, putO, argsL, ↓reduceIte, ofV, of1, lookH, putH, List.length_cons, List.length_nil, List.length_append, List.replicate, List.append, List.cons_append, List.nil_append, List.append_assoc, List.map_cons, List.map_nil, convS, fldA, nthT, idxA, idxS, fldS, oslN, bnd, slS, unS, valI, lenS, lookS, takeC, psB, asRow, csB, Int.toNat_natCast, Int.le_refl, and_self, rdF, Ent.row, ldS, sz, szL, wrF, bldF, plT, bldS, srcS, nilS, nilEq, mapC, binH, binS2, structS, eqL, eqF, binS, arrS, isI, tupS, stor, storL, Value.oneCell', minS, maxS, capS, true_and, and_true, Nat.reduceAdd, Nat.reduceSub, Nat.reduceMul, Nat.reduceLT, Nat.reduceLeDiff, Nat.reduceEqDiff, Nat.reduceBEq, Int.reduceToNat, Int.reduceNeg, Nat.zero_add, Nat.add_zero, Nat.sub_self, Nat.sub_zero, Nat.zero_mul, Nat.mul_one, Nat.zero_le, if_true, if_false, reduceIte, stays, inL, same1, qn, ldN, convN, lenN, List.mem_cons, List.not_mem_nil, Option.map_some, Option.map_none, cond_true, cond_false, Sx.imp_true, Sx.imp_false, implies_true, Int.reduceEq, Int.reduceNe, Int.reduceLE, Int.reduceLT, decide_true, decide_false, List.zipIdx_cons, List.zipIdx_nil, or_false, false_or, forall_eq_or_imp, forall_eq, ne_eq, reduceCtorEq, not_false_eq_true, Bool.false_eq_true, Bool.true_eq_false, Bool.not_true, Bool.not_false, notInt, numB, tabB, Array.reduceGetElem?, upG, up, nth, lay, rcB, rnm, rnmL, wrB, pcB, Option.isNone, res52]
  refine c79n _ _ ?_
  simp -implicitDefEqProofs (maxSteps := 1000000) (disch := omega) only [↓vcB, ↓gd, ↓opP, ↓qv, ↓ef, ↓bslS, ↓stS, ↓mkS, ↓rangeS, ↓nextS, ↓entryS, ↓delS, ↓mupS, ↓appS, ↓s2bS, ↓resS, evB, Sx.look, slot, ↓lkL, putS, putO, argsL, ↓reduceIte, ofV, of1, lookH, putH, List.length_cons, List.length_nil, List.length_append, List.replicate, List.append, List.cons_append, List.nil_append, List.append_assoc, List.map_cons, List.map_nil, convS, fldA, nthT, idxA, idxS, fldS, oslN, bnd, slS, unS, valI, lenS, lookS, takeC, psB, asRow, csB, Int.toNat_natCast, Int.le_refl, and_self, rdF, Ent.row, ldS, sz, szL, wrF, bldF, plT, bldS, srcS, nilS, nilEq, mapC, binH, binS2, structS, eqL, eqF, binS, arrS, isI, tupS, stor, storL, Value.oneCell', minS, maxS, capS, true_and, and_true, Nat.reduceAdd, Nat.reduceSub, Nat.reduceMul, Nat.reduceLT, Nat.reduceLeDiff, Nat.reduceEqDiff, Nat.reduceBEq, Int.reduceToNat, Int.reduceNeg, Nat.zero_add, Nat.add_zero, Nat.sub_self, Nat.sub_zero, Nat.zero_mul, Nat.mul_one, Nat.zero_le, if_true, if_false, reduceIte, stays, inL, same1, qn, ldN, convN, lenN, List.mem_cons, List.not_mem_nil, Option.map_some, Option.map_none, cond_true, cond_false, Sx.imp_true, Sx.imp_false, implies_true, Int.reduceEq, Int.reduceNe, Int.reduceLE, Int.reduceLT, decide_true, decide_false, List.zipIdx_cons, List.zipIdx_nil, or_false, false_or, forall_eq_or_imp, forall_eq, ne_eq, reduceCtorEq, not_false_eq_true, Bool.false_eq_true, Bool.true_eq_false, Bool.not_true, Bool.not_false, notInt, numB, tabB, Array.reduceGetElem?, upG, up, nth, lay, rcB, rnm, rnmL, wrB, pcB, Option.isNone, res52]
  exact intoR_refl (by simp) hK

theorem res117 : Try.f117.results.toList = [.tmp 4] := rfl
theorem res108 : Try.f108.results.toList = [.tmp 2] := rfl
theorem res91 : Try.f91.results.toList = [.tmp 2] := rfl
/-- slices.AppendSeq, of a sequence of keys that is known. -/
theorem c117k (f : FuncId) (lb : List Value) (n : Nat) (hn : n ≤ 1000) (ks : Nat → (List UInt8)) : callP (seqRPr Try.prog f lb (keyR n fun j => den (fun _ => ⟨0, 0, 0, true⟩) (.str ⟨⟨ks j⟩⟩)) (keyF n)) 117 [.v (.slice none 0 0), .v (.func (.func f) #[] ⟨lb⟩)] [] (fun _ v h' => ∃ zs : List (List UInt8), zs.Perm ((List.range n).map ks) ∧ v = .osl 0 0 0 1 zs.length ∧ h' = [.row true zs.length 1 fun i => .str ⟨⟨zs.getD i default⟩⟩]) := by
  refine callP_of_codeY (P := (seqRPr Try.prog f lb (keyR n fun j => den (fun _ => ⟨0, 0, 0, true⟩) (.str ⟨⟨ks j⟩⟩)) (keyF n))) tabOk Try.func117 (by kernel_rfl) rfl (Nat.le_of_ble_eq_true rfl) (fv := .nilFunc) (fx := fun _ => none) (nofx _) ?_
  refine codeY_of_vc (pl := np) tabOk follows_mixed (by kernel_rfl) ?_
  rw [Try.ntmps117]
  simp -implicitDefEqProofs (maxSteps := 1000000) (disch := omega) only [↓vcB, ↓gd, ↓opP, ↓qv, ↓ef, ↓bslS, ↓stS, ↓mkS, ↓rangeS, ↓nextS, ↓entryS, ↓delS, ↓mupS, ↓appS, ↓s2bS, ↓resS, evB, Sx.look, slot, ↓lkL, putS, putO, argsL, ↓reduceIte, ofV, of1, lookH, putH, List.length_cons, List.length_nil, List.length_append, List.replicate, List.append, List.cons_append, List.nil_append, List.append_assoc, List.map_cons, List.map_nil, convS, fldA, nthT, idxA, idxS, fldS, oslN, bnd, slS, unS, valI, lenS, lookS, takeC, psB, asRow, csB, Int.toNat_natCast, Int.le_refl, and_self, rdF, Ent.row, ldS, sz, szL, wrF, bldF, plT, bldS, srcS, nilS, nilEq, mapC, binH, binS2, structS, eqL, eqF, binS, arrS, isI, tupS, stor, storL, Value.oneCell', minS, maxS, capS, true_and, and_true, Nat.reduceAdd, Nat.reduceSub, Nat.reduceMul, Nat.reduceLT, Nat.reduceLeDiff, Nat.reduceEqDiff, Nat.reduceBEq, Int.reduceToNat, Int.reduceNeg, Nat.zero_add, Nat.add_zero, Nat.sub_self, Nat.sub_zero, Nat.zero_mul, Nat.mul_one, Nat.zero_le, if_true, if_false, reduceIte, stays, inL, same1, qn, ldN, convN, lenN, List.mem_cons, List.not_mem_nil, Option.map_some, Option.map_none, cond_true, cond_false, Sx.imp_true, Sx.imp_false, implies_true, Int.reduceEq, Int.reduceNe, Int.reduceLE, Int.reduceLT, decide_true, decide_false, List.zipIdx_cons, List.zipIdx_nil, or_false, false_or, forall_eq_or_imp, forall_eq, ne_eq, reduceCtorEq, not_false_eq_true, Bool.false_eq_true, Bool.true_eq_false, Bool.not_true, Bool.not_false, notInt, numB, tabB, ↓vyB, ↓opY, roA, liveA, lvB, frz, frz1, true_or, Array.reduceGetElem?, upG, up, nth, lay, rcB, rnm, rnmL, wrB, pcB, Value.oneCell']
  refine codeY_rangeR [] (fun i sv i' => ∃ p j, Pl n p ∧ j < n ∧ j ∉ p ∧ i = cd n p ∧ sv = .str ⟨⟨ks j⟩⟩ ∧ i' = cd n (j :: p)) (fun i => ∃ p, Pl n p ∧ p.length = n ∧ i = cd n p) (fun _ => True) ?_ (by simp [roA, liveA, lookH, Chunk.live, Chunk.wr]) (by simp) (fun ρ w X hk _ => ?_)
    (fun i g h' => g = .run 0 ∧ ∃ p, Pl n p ∧ i = cd n p ∧ ((p = [] ∧ h' = [.cells true [.v (.slice none 0 0)]]) ∨ (p ≠ [] ∧ h' = [.cells true [.osl 1 0 0 1 (p).length], .row true (p).length 1 fun i => .str ⟨⟨ks ((p).reverse.getD i 0)⟩⟩]))) (fun i g e h' => False) ?_ ?_ ?_ ?_
  · rintro i sv i' ⟨p, j, _, _, _, _, rfl, _⟩
    trivial
  · obtain ⟨B, h1, h2⟩ := hk
    refine ⟨f, lb, B, rfl, h2.mono ?_, fun b hb => .inl (h1 b hb)⟩
    rintro i v i' ⟨p, j, q1, q2, q3, q4, rfl, q6⟩
    exact ⟨_, ⟨p, j, q1, q2, q3, q4, rfl, q6⟩, rfl⟩
  · exact ⟨rfl, [], Pl.nil n, rfl, .inl ⟨rfl, by simp [frz, inL]⟩⟩
  · rintro _ _ _ g h' ⟨p, j, hp, hj, hjp, rfl, rfl, rfl⟩ ⟨rfl, p1, hp1, he, hcase⟩
    obtain rfl := cd_inj n p p1 hp.2 hp1.2 he
    have hpj := hp.cons hj hjp
    have hle := hpj.le
    simp only [List.length_cons] at hle
    rcases hcase with ⟨rfl, rfl⟩ | ⟨hne, rfl⟩
    · refine codeY_of_vc (pl := np) tabOk follows_mixed (by kernel_rfl) ?_
      simp -implicitDefEqProofs (maxSteps := 1000000) (disch := omega) only [↓vcB, ↓gd, ↓opP, ↓qv, ↓ef, ↓bslS, ↓stS, ↓mkS, ↓rangeS, ↓nextS, ↓entryS, ↓delS, ↓mupS, ↓appS, ↓s2bS, ↓resS, evB, Sx.look, slot, ↓lkL, putS, putO, argsL, ↓reduceIte, ofV, of1, lookH, putH, List.length_cons, List.length_nil, List.length_append, List.replicate, List.append, List.cons_append, List.nil_append, List.append_assoc, List.map_cons, List.map_nil, convS, fldA, nthT, idxA, idxS, fldS, oslN, bnd, slS, unS, valI, lenS, lookS, takeC, psB, asRow, csB, Int.toNat_natCast, Int.le_refl, and_self, rdF, Ent.row, ldS, sz, szL, wrF, bldF, plT, bldS, srcS, nilS, nilEq, mapC, binH, binS2, structS, eqL, eqF, binS, arrS, isI, tupS, stor, storL, Value.oneCell', minS, maxS, capS, true_and, and_true, Nat.reduceAdd, Nat.reduceSub, Nat.reduceMul, Nat.reduceLT, Nat.reduceLeDiff, Nat.reduceEqDiff, Nat.reduceBEq, Int.reduceToNat, Int.reduceNeg, Nat.zero_add, Nat.add_zero, Nat.sub_self, Nat.sub_zero, Nat.zero_mul, Nat.mul_one, Nat.zero_le, if_true, if_false, reduceIte, stays, inL, same1, qn, ldN, convN, lenN, List.mem_cons, List.not_mem_nil, Option.map_some, Option.map_none, cond_true, cond_false, Sx.imp_true, Sx.imp_false, implies_true, Int.reduceEq, Int.reduceNe, Int.reduceLE, Int.reduceLT, decide_true, decide_false, List.zipIdx_cons, List.zipIdx_nil, or_false, false_or, forall_eq_or_imp, forall_eq, ne_eq, reduceCtorEq, not_false_eq_true, Bool.false_eq_true, Bool.true_eq_false, Bool.not_true, Bool.not_false, notInt, numB, tabB, ↓vyB, ↓opY, roA, liveA, lvB, frz, frz1, true_or, Array.reduceGetElem?, upG, up, nth, lay, rcB, rnm, rnmL, wrB, pcB]
      refine codeY_of_vc (pl := np) tabOk follows_mixed (by kernel_rfl) ?_
      simp -implicitDefEqProofs (maxSteps := 1000000) (disch := omega) only [↓vcB, ↓gd, ↓opP, ↓qv, ↓ef, ↓bslS, ↓stS, ↓mkS, ↓rangeS, ↓nextS, ↓entryS, ↓delS, ↓mupS, ↓appS, ↓s2bS, ↓resS, evB, Sx.look, slot, ↓lkL, putS, putO, argsL, ↓reduceIte, ofV, of1, lookH, putH, List.length_cons, List.length_nil, List.length_append, List.replicate, List.append, List.cons_append, List.nil_append, List.append_assoc, List.map_cons, List.map_nil, convS, fldA, nthT, idxA, idxS, fldS, oslN, bnd, slS, unS, valI, lenS, lookS, takeC, psB, asRow, csB, Int.toNat_natCast, Int.le_refl, and_self, rdF, Ent.row, ldS, sz, szL, wrF, bldF, plT, bldS, srcS, nilS, nilEq, mapC, binH, binS2, structS, eqL, eqF, binS, arrS, isI, tupS, stor, storL, Value.oneCell', minS, maxS, capS, true_and, and_true, Nat.reduceAdd, Nat.reduceSub, Nat.reduceMul, Nat.reduceLT, Nat.reduceLeDiff, Nat.reduceEqDiff, Nat.reduceBEq, Int.reduceToNat, Int.reduceNeg, Nat.zero_add, Nat.add_zero, Nat.sub_self, Nat.sub_zero, Nat.zero_mul, Nat.mul_one, Nat.zero_le, if_true, if_false, reduceIte, stays, inL, same1, qn, ldN, convN, lenN, List.mem_cons, List.not_mem_nil, Option.map_some, Option.map_none, cond_true, cond_false, Sx.imp_true, Sx.imp_false, implies_true, Int.reduceEq, Int.reduceNe, Int.reduceLE, Int.reduceLT, decide_true, decide_false, List.zipIdx_cons, List.zipIdx_nil, or_false, false_or, forall_eq_or_imp, forall_eq, ne_eq, reduceCtorEq, not_false_eq_true, Bool.false_eq_true, Bool.true_eq_false, Bool.not_true, Bool.not_false, notInt, numB, tabB, ↓vyB, ↓opY, roA, liveA, lvB, frz, frz1, true_or, Array.reduceGetElem?, upG, up, nth, lay, rcB, rnm, rnmL, wrB, pcB, csz_slice']
      repeat (refine ⟨by omega, ?_⟩)
      intro d
      refine into_mk [some 0, some 2] [] [.cells true [.osl 1 0 0 1 ([j]).length], .row true ([j]).length 1 fun i => .str ⟨⟨ks (([j]).reverse.getD i 0)⟩⟩] ?_ ?_ ?_ ?_ ?_ ?_ ?_ fun j' => ⟨rfl, ⟨[j], hpj, rfl, .inr ⟨by simp, rfl⟩⟩, by simp [roA, liveA, lookH, frz, frz1, inL, Chunk.live, Chunk.wr]⟩
      · simp [slot, lkL, fixed, rg, renH, chEq, lookH, eqvL, eqv, eqvF, rnmL, rnm, liveN, Chunk.live, goodH, Chunk.good, okL, ok, sz, szL, storL, stor, renT, okT]
      · simp [slot, lkL, fixed, rg, renH, chEq, lookH, eqvL, eqv, eqvF, rnmL, rnm, liveN, Chunk.live, goodH, Chunk.good, okL, ok, sz, szL, storL, stor, renT, okT]
      · simp [slot, lkL, fixed, rg, renH, chEq, lookH, eqvL, eqv, eqvF, rnmL, rnm, liveN, Chunk.live, goodH, Chunk.good, okL, ok, sz, szL, storL, stor, renT, okT, Sx.look]
      · simp [slot, lkL, fixed, rg, renH, chEq, lookH, eqvL, eqv, eqvF, rnmL, rnm, liveN, Chunk.live, goodH, Chunk.good, okL, ok, sz, szL, storL, stor, renT, okT]
      · simp [slot, lkL, fixed, rg, renH, chEq, lookH, eqvL, eqv, eqvF, rnmL, rnm, liveN, Chunk.live, goodH, Chunk.good, okL, ok, sz, szL, storL, stor, renT, okT, Value.oneCell']
      · simp [slot, lkL, fixed, rg, renH, chEq, lookH, eqvL, eqv, eqvF, rnmL, rnm, liveN, Chunk.live, goodH, Chunk.good, okL, ok, sz, szL, storL, stor, renT, okT]
      · simp [slot, lkL, fixed, rg, renH, chEq, lookH, eqvL, eqv, eqvF, rnmL, rnm, liveN, Chunk.live, goodH, Chunk.good, okL, ok, sz, szL, storL, stor, renT, okT]
    · refine codeY_of_vc (pl := np) tabOk follows_mixed (by kernel_rfl) ?_
      simp -implicitDefEqProofs (maxSteps := 1000000) (disch := omega) only [↓vcB, ↓gd, ↓opP, ↓qv, ↓ef, ↓bslS, ↓stS, ↓mkS, ↓rangeS, ↓nextS, ↓entryS, ↓delS, ↓mupS, ↓appS, ↓s2bS, ↓resS, evB, Sx.look, slot, ↓lkL, putS, putO, argsL, ↓reduceIte, ofV, of1, lookH, putH, List.length_cons, List.length_nil, List.length_append, List.replicate, List.append, List.cons_append, List.nil_append, List.append_assoc, List.map_cons, List.map_nil, convS, fldA, nthT, idxA, idxS, fldS, oslN, bnd, slS, unS, valI, lenS, lookS, takeC, psB, asRow, csB, Int.toNat_natCast, Int.le_refl, and_self, rdF, Ent.row, ldS, sz, szL, wrF, bldF, plT, bldS, srcS, nilS, nilEq, mapC, binH, binS2, structS, eqL, eqF, binS, arrS, isI, tupS, stor, storL, Value.oneCell', minS, maxS, capS, true_and, and_true, Nat.reduceAdd, Nat.reduceSub, Nat.reduceMul, Nat.reduceLT, Nat.reduceLeDiff, Nat.reduceEqDiff, Nat.reduceBEq, Int.reduceToNat, Int.reduceNeg, Nat.zero_add, Nat.add_zero, Nat.sub_self, Nat.sub_zero, Nat.zero_mul, Nat.mul_one, Nat.zero_le, if_true, if_false, reduceIte, stays, inL, same1, qn, ldN, convN, lenN, List.mem_cons, List.not_mem_nil, Option.map_some, Option.map_none, cond_true, cond_false, Sx.imp_true, Sx.imp_false, implies_true, Int.reduceEq, Int.reduceNe, Int.reduceLE, Int.reduceLT, decide_true, decide_false, List.zipIdx_cons, List.zipIdx_nil, or_false, false_or, forall_eq_or_imp, forall_eq, ne_eq, reduceCtorEq, not_false_eq_true, Bool.false_eq_true, Bool.true_eq_false, Bool.not_true, Bool.not_false, notInt, numB, tabB, ↓vyB, ↓opY, roA, liveA, lvB, frz, frz1, true_or, Array.reduceGetElem?, upG, up, nth, lay, rcB, rnm, rnmL, wrB, pcB]
      refine codeY_of_vc (pl := np) tabOk follows_mixed (by kernel_rfl) ?_
      simp -implicitDefEqProofs (maxSteps := 1000000) (disch := omega) only [↓vcB, ↓gd, ↓opP, ↓qv, ↓ef, ↓bslS, ↓stS, ↓mkS, ↓rangeS, ↓nextS, ↓entryS, ↓delS, ↓mupS, ↓appS, ↓s2bS, ↓resS, evB, Sx.look, slot, ↓lkL, putS, putO, argsL, ↓reduceIte, ofV, of1, lookH, putH, List.length_cons, List.length_nil, List.length_append, List.replicate, List.append, List.cons_append, List.nil_append, List.append_assoc, List.map_cons, List.map_nil, convS, fldA, nthT, idxA, idxS, fldS, oslN, bnd, slS, unS, valI, lenS, lookS, takeC, psB, asRow, csB, Int.toNat_natCast, Int.le_refl, and_self, rdF, Ent.row, ldS, sz, szL, wrF, bldF, plT, bldS, srcS, nilS, nilEq, mapC, binH, binS2, structS, eqL, eqF, binS, arrS, isI, tupS, stor, storL, Value.oneCell', minS, maxS, capS, true_and, and_true, Nat.reduceAdd, Nat.reduceSub, Nat.reduceMul, Nat.reduceLT, Nat.reduceLeDiff, Nat.reduceEqDiff, Nat.reduceBEq, Int.reduceToNat, Int.reduceNeg, Nat.zero_add, Nat.add_zero, Nat.sub_self, Nat.sub_zero, Nat.zero_mul, Nat.mul_one, Nat.zero_le, if_true, if_false, reduceIte, stays, inL, same1, qn, ldN, convN, lenN, List.mem_cons, List.not_mem_nil, Option.map_some, Option.map_none, cond_true, cond_false, Sx.imp_true, Sx.imp_false, implies_true, Int.reduceEq, Int.reduceNe, Int.reduceLE, Int.reduceLT, decide_true, decide_false, List.zipIdx_cons, List.zipIdx_nil, or_false, false_or, forall_eq_or_imp, forall_eq, ne_eq, reduceCtorEq, not_false_eq_true, Bool.false_eq_true, Bool.true_eq_false, Bool.not_true, Bool.not_false, notInt, numB, tabB, ↓vyB, ↓opY, roA, liveA, lvB, frz, frz1, true_or, Array.reduceGetElem?, upG, up, nth, lay, rcB, rnm, rnmL, wrB, pcB, csz_slice']
      repeat (refine ⟨by omega, ?_⟩)
      intro d
      refine into_mk [some 0, some 3] [] [.cells true [.osl 1 0 0 1 (j :: p).length], .row true (j :: p).length 1 fun i => .str ⟨⟨ks ((j :: p).reverse.getD i 0)⟩⟩] ?_ ?_ ?_ ?_ ?_ ?_ ?_ fun j' => ⟨rfl, ⟨j :: p, hpj, rfl, .inr ⟨by simp, rfl⟩⟩, by simp [roA, liveA, lookH, frz, frz1, inL, Chunk.live, Chunk.wr]⟩
      · simp [slot, lkL, fixed, rg, renH, chEq, lookH, eqvL, eqv, eqvF, rnmL, rnm, liveN, Chunk.live, goodH, Chunk.good, okL, ok, sz, szL, storL, stor, renT, okT]
      · simp [slot, lkL, fixed, rg, renH, chEq, lookH, eqvL, eqv, eqvF, rnmL, rnm, liveN, Chunk.live, goodH, Chunk.good, okL, ok, sz, szL, storL, stor, renT, okT]
      · simp [slot, lkL, fixed, rg, renH, chEq, lookH, eqvL, eqv, eqvF, rnmL, rnm, liveN, Chunk.live, goodH, Chunk.good, okL, ok, sz, szL, storL, stor, renT, okT, Sx.look]
        intro i hi
        by_cases hlt : i < p.length
        · simp [hlt, eqv, List.getElem?_append_left]
        · obtain rfl : i = p.length := by omega
          simp [Sx.look, eqv]
      · simp [slot, lkL, fixed, rg, renH, chEq, lookH, eqvL, eqv, eqvF, rnmL, rnm, liveN, Chunk.live, goodH, Chunk.good, okL, ok, sz, szL, storL, stor, renT, okT]
      · simp [slot, lkL, fixed, rg, renH, chEq, lookH, eqvL, eqv, eqvF, rnmL, rnm, liveN, Chunk.live, goodH, Chunk.good, okL, ok, sz, szL, storL, stor, renT, okT, Value.oneCell']
      · simp [slot, lkL, fixed, rg, renH, chEq, lookH, eqvL, eqv, eqvF, rnmL, rnm, liveN, Chunk.live, goodH, Chunk.good, okL, ok, sz, szL, storL, stor, renT, okT]
      · simp [slot, lkL, fixed, rg, renH, chEq, lookH, eqvL, eqv, eqvF, rnmL, rnm, liveN, Chunk.live, goodH, Chunk.good, okL, ok, sz, szL, storL, stor, renT, okT]
  · rintro i g h' ⟨p, hp, hl, rfl⟩ ⟨rfl, p1, hp1, he, hcase⟩
    obtain rfl := cd_inj n p p1 hp.2 hp1.2 he
    rcases hcase with ⟨rfl, rfl⟩ | ⟨hne, rfl⟩
    · simp -implicitDefEqProofs (maxSteps := 1000000) (disch := omega) only [↓vcB, ↓gd, ↓opP, ↓qv, ↓ef, ↓bslS, ↓stS, ↓mkS, ↓rangeS, ↓nextS, ↓entryS, ↓delS, ↓mupS, ↓appS, ↓s2bS, ↓resS, evB, Sx.look, slot, ↓lkL, putS, putO, argsL, ↓reduceIte, ofV, of1, lookH, putH, List.length_cons, List.length_nil, List.length_append, List.replicate, List.append, List.cons_append, List.nil_append, List.append_assoc, List.map_cons, List.map_nil, convS, fldA, nthT, idxA, idxS, fldS, oslN, bnd, slS, unS, valI, lenS, lookS, takeC, psB, asRow, csB, Int.toNat_natCast, Int.le_refl, and_self, rdF, Ent.row, ldS, sz, szL, wrF, bldF, plT, bldS, srcS, nilS, nilEq, mapC, binH, binS2, structS, eqL, eqF, binS, arrS, isI, tupS, stor, storL, Value.oneCell', minS, maxS, capS, true_and, and_true, Nat.reduceAdd, Nat.reduceSub, Nat.reduceMul, Nat.reduceLT, Nat.reduceLeDiff, Nat.reduceEqDiff, Nat.reduceBEq, Int.reduceToNat, Int.reduceNeg, Nat.zero_add, Nat.add_zero, Nat.sub_self, Nat.sub_zero, Nat.zero_mul, Nat.mul_one, Nat.zero_le, if_true, if_false, reduceIte, stays, inL, same1, qn, ldN, convN, lenN, List.mem_cons, List.not_mem_nil, Option.map_some, Option.map_none, cond_true, cond_false, Sx.imp_true, Sx.imp_false, implies_true, Int.reduceEq, Int.reduceNe, Int.reduceLE, Int.reduceLT, decide_true, decide_false, List.zipIdx_cons, List.zipIdx_nil, or_false, false_or, forall_eq_or_imp, forall_eq, ne_eq, reduceCtorEq, not_false_eq_true, Bool.false_eq_true, Bool.true_eq_false, Bool.not_true, Bool.not_false, notInt, numB, tabB, ↓vyB, ↓opY, roA, liveA, lvB, frz, frz1, true_or, Array.reduceGetElem?, upG, up, nth, lay, rcB, rnm, rnmL, wrB, pcB, res117]
      have hn0 : n = 0 := by simpa using hl.symm
      subst hn0
      exact intoR_nilT [] rfl rfl trivial ⟨[], by simp, rfl, rfl⟩
    · simp -implicitDefEqProofs (maxSteps := 1000000) (disch := omega) only [↓vcB, ↓gd, ↓opP, ↓qv, ↓ef, ↓bslS, ↓stS, ↓mkS, ↓rangeS, ↓nextS, ↓entryS, ↓delS, ↓mupS, ↓appS, ↓s2bS, ↓resS, evB, Sx.look, slot, ↓lkL, putS, putO, argsL, ↓reduceIte, ofV, of1, lookH, putH, List.length_cons, List.length_nil, List.length_append, List.replicate, List.append, List.cons_append, List.nil_append, List.append_assoc, List.map_cons, List.map_nil, convS, fldA, nthT, idxA, idxS, fldS, oslN, bnd, slS, unS, valI, lenS, lookS, takeC, psB, asRow, csB, Int.toNat_natCast, Int.le_refl, and_self, rdF, Ent.row, ldS, sz, szL, wrF, bldF, plT, bldS, srcS, nilS, nilEq, mapC, binH, binS2, structS, eqL, eqF, binS, arrS, isI, tupS, stor, storL, Value.oneCell', minS, maxS, capS, true_and, and_true, Nat.reduceAdd, Nat.reduceSub, Nat.reduceMul, Nat.reduceLT, Nat.reduceLeDiff, Nat.reduceEqDiff, Nat.reduceBEq, Int.reduceToNat, Int.reduceNeg, Nat.zero_add, Nat.add_zero, Nat.sub_self, Nat.sub_zero, Nat.zero_mul, Nat.mul_one, Nat.zero_le, if_true, if_false, reduceIte, stays, inL, same1, qn, ldN, convN, lenN, List.mem_cons, List.not_mem_nil, Option.map_some, Option.map_none, cond_true, cond_false, Sx.imp_true, Sx.imp_false, implies_true, Int.reduceEq, Int.reduceNe, Int.reduceLE, Int.reduceLT, decide_true, decide_false, List.zipIdx_cons, List.zipIdx_nil, or_false, false_or, forall_eq_or_imp, forall_eq, ne_eq, reduceCtorEq, not_false_eq_true, Bool.false_eq_true, Bool.true_eq_false, Bool.not_true, Bool.not_false, notInt, numB, tabB, ↓vyB, ↓opY, roA, liveA, lvB, frz, frz1, true_or, Array.reduceGetElem?, upG, up, nth, lay, rcB, rnm, rnmL, wrB, pcB, res117]
      have hlen : (p.reverse.map ks).length = p.length := by simp
      refine intoR_mk [some 1] (.osl 0 0 0 1 (p.reverse.map ks).length) [.row true (p.reverse.map ks).length 1 fun i => .str ⟨⟨(p.reverse.map ks).getD i default⟩⟩] ?_ ?_ ?_ ?_ ?_ ?_ ?_ ⟨p.reverse.map ks, ((List.reverse_perm p).trans (hp.perm hl)).map ks, rfl, rfl⟩
      · simp [slot, lkL, fixed, rg, renH, chEq, lookH, eqvL, eqv, eqvF, rnmL, rnm, liveN, Chunk.live, goodH, Chunk.good, okL, ok, sz, szL, storL, stor, renT, okT]
      · simp [slot, lkL, fixed, rg, renH, chEq, lookH, eqvL, eqv, eqvF, rnmL, rnm, liveN, Chunk.live, goodH, Chunk.good, okL, ok, sz, szL, storL, stor, renT, okT]
      · simp [slot, lkL, fixed, rg, renH, chEq, lookH, eqvL, eqv, eqvF, rnmL, rnm, liveN, Chunk.live, goodH, Chunk.good, okL, ok, sz, szL, storL, stor, renT, okT]
        intro i hi
        simp [eqv, List.getElem?_reverse, hi]
      · simp [slot, lkL, fixed, rg, renH, chEq, lookH, eqvL, eqv, eqvF, rnmL, rnm, liveN, Chunk.live, goodH, Chunk.good, okL, ok, sz, szL, storL, stor, renT, okT]
      · simp [slot, lkL, fixed, rg, renH, chEq, lookH, eqvL, eqv, eqvF, rnmL, rnm, liveN, Chunk.live, goodH, Chunk.good, okL, ok, sz, szL, storL, stor, renT, okT]
      · simp [slot, lkL, fixed, rg, renH, chEq, lookH, eqvL, eqv, eqvF, rnmL, rnm, liveN, Chunk.live, goodH, Chunk.good, okL, ok, sz, szL, storL, stor, renT, okT]
      · simp [slot, lkL, fixed, rg, renH, chEq, lookH, eqvL, eqv, eqvF, rnmL, rnm, liveN, Chunk.live, goodH, Chunk.good, okL, ok, sz, szL, storL, stor, renT, okT]
  · rintro i g e h' _ he
    exact he.elim
theorem c108k (f : FuncId) (lb : List Value) (n : Nat) (hn : n ≤ 1000) (ks : Nat → (List UInt8)) : callP (seqRPr Try.prog f lb (keyR n fun j => den (fun _ => ⟨0, 0, 0, true⟩) (.str ⟨⟨ks j⟩⟩)) (keyF n)) 108 [.v (.func (.func f) #[] ⟨lb⟩)] [] (fun _ v h' => ∃ zs : List (List UInt8), zs.Perm ((List.range n).map ks) ∧ v = .osl 0 0 0 1 zs.length ∧ h' = [.row true zs.length 1 fun i => .str ⟨⟨zs.getD i default⟩⟩]) := by
  refine callP_of_code (P := (seqRPr Try.prog f lb (keyR n fun j => den (fun _ => ⟨0, 0, 0, true⟩) (.str ⟨⟨ks j⟩⟩)) (keyF n))) tabOk Try.func108 (by kernel_rfl) rfl (Nat.le_of_ble_eq_true rfl) (codeP_of_vc (pl := np) tabOk follows_mixed (by kernel_rfl) ?_)
  rw [Try.ntmps108]
  simp -implicitDefEqProofs (maxSteps := 1000000) (disch := omega) only [↓vcB, ↓gd, ↓opP, ↓qv, ↓ef, ↓bslS, ↓stS, ↓mkS, ↓rangeS, ↓nextS, ↓entryS, ↓delS, ↓mupS, ↓appS, ↓s2bS, ↓resS, evB, Sx.look, slot, ↓lkL, putS, putO, argsL, ↓reduceIte, ofV, of1, lookH, putH, List.length_cons, List.length_nil, List.length_append, List.replicate, List.append, List.cons_append, List.nil_append, List.append_assoc, List.map_cons, List.map_nil, convS, fldA, nthT, idxA, idxS, fldS, oslN, bnd, slS, unS, valI, lenS, lookS, takeC, psB, asRow, csB, Int.toNat_natCast, Int.le_refl, and_self, rdF, Ent.row, ldS, sz, szL, wrF, bldF, plT, bldS, srcS, nilS, nilEq, mapC, binH, binS2, structS, eqL, eqF, binS, arrS, isI, tupS, stor, storL, Value.oneCell', minS, maxS, capS, true_and, and_true, Nat.reduceAdd, Nat.reduceSub, Nat.reduceMul, Nat.reduceLT, Nat.reduceLeDiff, Nat.reduceEqDiff, Nat.reduceBEq, Int.reduceToNat, Int.reduceNeg, Nat.zero_add, Nat.add_zero, Nat.sub_self, Nat.sub_zero, Nat.zero_mul, Nat.mul_one, Nat.zero_le, if_true, if_false, reduceIte, stays, inL, same1, qn, ldN, convN, lenN, List.mem_cons, List.not_mem_nil, Option.map_some, Option.map_none, cond_true, cond_false, Sx.imp_true, Sx.imp_false, implies_true, Int.reduceEq, Int.reduceNe, Int.reduceLE, Int.reduceLT, decide_true, decide_false, List.zipIdx_cons, List.zipIdx_nil, or_false, false_or, forall_eq_or_imp, forall_eq, ne_eq, reduceCtorEq, not_false_eq_true, Bool.false_eq_true, Bool.true_eq_false, Bool.not_true, Bool.not_false, notInt, numB, tabB, Array.reduceGetElem?, upG, up, nth, lay, rcB, rnm, rnmL, wrB, pcB, res108]
  refine callP_mono (c117k f lb n hn ks) ?_
  rintro v h' ⟨zs, hz, rfl, rfl⟩
  simp -implicitDefEqProofs (maxSteps := 1000000) (disch := omega) only [↓vcB, ↓gd, ↓opP, ↓qv, ↓ef, ↓bslS, ↓stS, ↓mkS, ↓rangeS, ↓nextS, ↓entryS, ↓delS, ↓mupS, ↓appS, ↓s2bS, ↓resS, evB, Sx.look, slot, ↓lkL, putS, putO, argsL, ↓reduceIte, ofV, of1, lookH, putH, List.length_cons, List.length_nil, List.length_append, List.replicate, List.append, List.cons_append, List.nil_append, List.append_assoc, List.map_cons, List.map_nil, convS, fldA, nthT, idxA, idxS, fldS, oslN, bnd, slS, unS, valI, lenS, lookS, takeC, psB, asRow, csB, Int.toNat_natCast, Int.le_refl, and_self, rdF, Ent.row, ldS, sz, szL, wrF, bldF, plT, bldS, srcS, nilS, nilEq, mapC, binH, binS2, structS, eqL, eqF, binS, arrS, isI, tupS, stor, storL, Value.oneCell', minS, maxS, capS, true_and, and_true, Nat.reduceAdd, Nat.reduceSub, Nat.reduceMul, Nat.reduceLT, Nat.reduceLeDiff, Nat.reduceEqDiff, Nat.reduceBEq, Int.reduceToNat, Int.reduceNeg, Nat.zero_add, Nat.add_zero, Nat.sub_self, Nat.sub_zero, Nat.zero_mul, Nat.mul_one, Nat.zero_le, if_true, if_false, reduceIte, stays, inL, same1, qn, ldN, convN, lenN, List.mem_cons, List.not_mem_nil, Option.map_some, Option.map_none, cond_true, cond_false, Sx.imp_true, Sx.imp_false, implies_true, Int.reduceEq, Int.reduceNe, Int.reduceLE, Int.reduceLT, decide_true, decide_false, List.zipIdx_cons, List.zipIdx_nil, or_false, false_or, forall_eq_or_imp, forall_eq, ne_eq, reduceCtorEq, not_false_eq_true, Bool.false_eq_true, Bool.true_eq_false, Bool.not_true, Bool.not_false, notInt, numB, tabB, Array.reduceGetElem?, upG, up, nth, lay, rcB, rnm, rnmL, wrB, pcB, res108]
  exact intoR_refl (Nat.zero_le _) ⟨zs, hz, rfl, rfl⟩
section
variable {P : Pr} (hP : P.p = Try.prog)
include hP
/-- slices.Collect, of keys in a heap. -/
theorem c108 {qs : List Nat} {h : List Chunk} {sv : SV} {n : Nat} (hn : n ≤ 1000) {ks : Nat → (List UInt8)} (hs : SeqR P qs h sv (keyR n fun j => den (fun _ => ⟨0, 0, 0, true⟩) (.str ⟨⟨ks j⟩⟩)) (keyF n)) (K : Tok → SV → List Chunk → Prop)
    (hK : ∀ zs : List (List UInt8), zs.Perm ((List.range n).map ks) → K .mk (.osl h.length 0 0 1 zs.length) (h ++ [.row true zs.length 1 fun i => .str ⟨⟨zs.getD i default⟩⟩])) : callP P 108 [sv] h K := by
  refine callP_open (KL := (fun _ v h' => ∃ zs : List (List UInt8), zs.Perm ((List.range n).map ks) ∧ v = .osl 0 0 0 1 zs.length ∧ h' = [.row true zs.length 1 fun i => .str ⟨⟨zs.getD i default⟩⟩])) (fun C ρ w hk hMo => ?_) ?_
  · obtain ⟨f, lb, B, hd, hg, _⟩ := hs ρ w (fun b => C.X b ∨ C.w0.heap.size ≤ b) (P.keep hk hMo.keep fun b hb => hb) fun k hkq => ⟨lookH_holds hMo k, fun hR => hMo.size k _ (lookH_some rfl (by intro e; rw [e] at hR; cases hR.1)) hR⟩
    rw [hP] at hg
    have hd' : ∀ ρ', denL ρ [sv] = denL ρ' [.v (.func (.func f) #[] ⟨lb⟩)] := fun ρ' => by simp only [denL, hd, den]
    exact ⟨(seqRPr Try.prog f lb (keyR n fun j => den (fun _ => ⟨0, 0, 0, true⟩) (.str ⟨⟨ks j⟩⟩)) (keyF n)), [.v (.func (.func f) #[] ⟨lb⟩)], hP.symm, ⟨B, fun _ _ h => h, hg⟩, ⟨trivial, trivial⟩, hd', c108k f lb n hn ks⟩
  · rintro v hl' ⟨zs, hz, rfl, rfl⟩
    refine ⟨by simp [Chunk.wr], ?_⟩
    have e1 : rnm (upG [] h.length) (.osl 0 0 0 1 zs.length) = .osl h.length 0 0 1 zs.length := by simp [rnm, upG, up, nth]
    have e2 : [Chunk.row true zs.length 1 fun i => .str ⟨⟨zs.getD i default⟩⟩].map (rnmC (upG [] h.length)) = [Chunk.row true zs.length 1 fun i => .str ⟨⟨zs.getD i default⟩⟩] := by simp [rnmC, rnm, ]
    rw [e1, e2]
    exact hK zs hz
end
/-- slices.Sorted, of keys. -/
theorem c91 {qs : List Nat} {h : List Chunk} {sv : SV} {n : Nat} (hn : n ≤ 1000) {ks : Nat → (List UInt8)} (hs : SeqR (Pr.of Try.prog) qs h sv (keyR n fun j => den (fun _ => ⟨0, 0, 0, true⟩) (.str ⟨⟨ks j⟩⟩)) (keyF n)) (S : List (List UInt8)) (hS : S = ((List.range n).map ks).mergeSort fun x y => decide (x ≤ y)) (K : Tok → SV → List Chunk → Prop)
    (hK : K .mk (.osl h.length 0 0 1 S.length) (h ++ [.row true S.length 1 fun i => .str ⟨⟨S.getD i default⟩⟩])) : callP Try.prog 91 [sv] h K := by
  refine callP_of_code tabOk Try.func91 (by kernel_rfl) rfl (Nat.le_of_ble_eq_true rfl) (codeP_of_vc (pl := np) tabOk follows_mixed (by kernel_rfl) ?_)
  rw [Try.ntmps91]
  simp -implicitDefEqProofs (maxSteps := 1000000) (disch := omega) only [↓vcB, ↓gd, ↓opP, ↓qv, ↓ef, ↓bslS, ↓stS, ↓mkS, ↓rangeS, ↓nextS, ↓entryS, ↓delS, ↓mupS, ↓appS, ↓s2bS, ↓resS, evB, Sx.look, slot, ↓lkL, putS, putO, argsL, ↓reduceIte, ofV, of1, lookH, putH, List.length_cons, List.length_nil, List.length_append, List.replicate, List.append, List.cons_append, List.nil_append, List.append_assoc, List.map_cons, List.map_nil, convS, fldA, nthT, idxA, idxS, fldS, oslN, bnd, slS, unS, valI, lenS, lookS, takeC, psB, asRow, csB, Int.toNat_natCast, Int.le_refl, and_self, rdF, Ent.row, ldS, sz, szL, wrF, bldF, plT, bldS, srcS, nilS, nilEq, mapC, binH, binS2, structS, eqL, eqF, binS, arrS, isI, tupS, stor, storL, Value.oneCell', minS, maxS, capS, true_and, and_true, Nat.reduceAdd, Nat.reduceSub, Nat.reduceMul, Nat.reduceLT, Nat.reduceLeDiff, Nat.reduceEqDiff, Nat.reduceBEq, Int.reduceToNat, Int.reduceNeg, Nat.zero_add, Nat.add_zero, Nat.sub_self, Nat.sub_zero, Nat.zero_mul, Nat.mul_one, Nat.zero_le, if_true, if_false, reduceIte, stays, inL, same1, qn, ldN, convN, lenN, List.mem_cons, List.not_mem_nil, Option.map_some, Option.map_none, cond_true, cond_false, Sx.imp_true, Sx.imp_false, implies_true, Int.reduceEq, Int.reduceNe, Int.reduceLE, Int.reduceLT, decide_true, decide_false, List.zipIdx_cons, List.zipIdx_nil, or_false, false_or, forall_eq_or_imp, forall_eq, ne_eq, reduceCtorEq, not_false_eq_true, Bool.false_eq_true, Bool.true_eq_false, Bool.not_true, Bool.not_false, notInt, numB, tabB, Array.reduceGetElem?, upG, up, nth, lay, rcB, rnm, rnmL, wrB, pcB, res91]
  refine c108 rfl hn hs _ fun zs hz => ?_
  have hS2 : (zs.mergeSort fun x y => decide (x ≤ y)) = S := by rw [hS]; exact sortS_perm hz
  have hl : S.length = zs.length := by rw [← hS2, List.length_mergeSort]
  have hzl : zs.length = n := by rw [hz.length_eq]; simp
  rw [hl] at hK
  simp -implicitDefEqProofs (maxSteps := 1000000) (disch := omega) only [↓vcB, ↓gd, ↓opP, ↓qv, ↓ef, ↓bslS, ↓stS, ↓mkS, ↓rangeS, ↓nextS, ↓entryS, ↓delS, ↓mupS, ↓appS, ↓s2bS, ↓resS, evB, Sx.look, slot, ↓lkL, putS, putO, argsL, ↓reduceIte, ofV, of1, lookH, putH, List.length_cons, List.length_nil, List.length_append, List.replicate, List.append, List.cons_append, List.nil_append, List.append_assoc, List.map_cons, List.map_nil, convS, fldA, nthT, idxA, idxS, fldS, oslN, bnd, slS, unS, valI, lenS, lookS, takeC, psB, asRow, csB, Int.toNat_natCast, Int.le_refl, and_self, rdF, Ent.row, ldS, sz, szL, wrF, bldF, plT, bldS, srcS, nilS, nilEq, mapC, binH, binS2, structS, eqL, eqF, binS, arrS, isI, tupS, stor, storL, Value.oneCell', minS, maxS, capS, true_and, and_true, Nat.reduceAdd, Nat.reduceSub, Nat.reduceMul, Nat.reduceLT, Nat.reduceLeDiff, Nat.reduceEqDiff, Nat.reduceBEq, Int.reduceToNat, Int.reduceNeg, Nat.zero_add, Nat.add_zero, Nat.sub_self, Nat.sub_zero, Nat.zero_mul, Nat.mul_one, Nat.zero_le, if_true, if_false, reduceIte, stays, inL, same1, qn, ldN, convN, lenN, List.mem_cons, List.not_mem_nil, Option.map_some, Option.map_none, cond_true, cond_false, Sx.imp_true, Sx.imp_false, implies_true, Int.reduceEq, Int.reduceNe, Int.reduceLE, Int.reduceLT, decide_true, decide_false, List.zipIdx_cons, List.zipIdx_nil, or_false, false_or, forall_eq_or_imp, forall_eq, ne_eq, reduceCtorEq, not_false_eq_true, Bool.false_eq_true, Bool.true_eq_false, Bool.not_true, Bool.not_false, notInt, numB, tabB, Array.reduceGetElem?, upG, up, nth, lay, rcB, rnm, rnmL, wrB, pcB, res91]
  refine c109 rfl zs (by rw [lookH_app0]; rfl) (by omega) (fun h0 => ?_) (fun h0 => ?_)
  · have hS0 : S = [] := by rw [← hS2, h0]; simp
    rw [hS0] at hK
    rw [h0] at hK ⊢
    simp -implicitDefEqProofs (maxSteps := 1000000) (disch := omega) only [↓vcB, ↓gd, ↓opP, ↓qv, ↓ef, ↓bslS, ↓stS, ↓mkS, ↓rangeS, ↓nextS, ↓entryS, ↓delS, ↓mupS, ↓appS, ↓s2bS, ↓resS, evB, Sx.look, slot, ↓lkL, putS, putO, argsL, ↓reduceIte, ofV, of1, lookH, putH, List.length_cons, List.length_nil, List.length_append, List.replicate, List.append, List.cons_append, List.nil_append, List.append_assoc, List.map_cons, List.map_nil, convS, fldA, nthT, idxA, idxS, fldS, oslN, bnd, slS, unS, valI, lenS, lookS, takeC, psB, asRow, csB, Int.toNat_natCast, Int.le_refl, and_self, rdF, Ent.row, ldS, sz, szL, wrF, bldF, plT, bldS, srcS, nilS, nilEq, mapC, binH, binS2, structS, eqL, eqF, binS, arrS, isI, tupS, stor, storL, Value.oneCell', minS, maxS, capS, true_and, and_true, Nat.reduceAdd, Nat.reduceSub, Nat.reduceMul, Nat.reduceLT, Nat.reduceLeDiff, Nat.reduceEqDiff, Nat.reduceBEq, Int.reduceToNat, Int.reduceNeg, Nat.zero_add, Nat.add_zero, Nat.sub_self, Nat.sub_zero, Nat.zero_mul, Nat.mul_one, Nat.zero_le, if_true, if_false, reduceIte, stays, inL, same1, qn, ldN, convN, lenN, List.mem_cons, List.not_mem_nil, Option.map_some, Option.map_none, cond_true, cond_false, Sx.imp_true, Sx.imp_false, implies_true, Int.reduceEq, Int.reduceNe, Int.reduceLE, Int.reduceLT, decide_true, decide_false, List.zipIdx_cons, List.zipIdx_nil, or_false, false_or, forall_eq_or_imp, forall_eq, ne_eq, reduceCtorEq, not_false_eq_true, Bool.false_eq_true, Bool.true_eq_false, Bool.not_true, Bool.not_false, notInt, numB, tabB, Array.reduceGetElem?, upG, up, nth, lay, rcB, rnm, rnmL, wrB, pcB, res91]
    exact intoR_refl (by simp) hK
  · rw [putH_app0, hS2]
    simp -implicitDefEqProofs (maxSteps := 1000000) (disch := omega) only [↓vcB, ↓gd, ↓opP, ↓qv, ↓ef, ↓bslS, ↓stS, ↓mkS, ↓rangeS, ↓nextS, ↓entryS, ↓delS, ↓mupS, ↓appS, ↓s2bS, ↓resS, evB, Sx.look, slot, ↓lkL, putS, putO, argsL, ↓reduceIte, ofV, of1, lookH, putH, List.length_cons, List.length_nil, List.length_append, List.replicate, List.append, List.cons_append, List.nil_append, List.append_assoc, List.map_cons, List.map_nil, convS, fldA, nthT, idxA, idxS, fldS, oslN, bnd, slS, unS, valI, lenS, lookS, takeC, psB, asRow, csB, Int.toNat_natCast, Int.le_refl, and_self, rdF, Ent.row, ldS, sz, szL, wrF, bldF, plT, bldS, srcS, nilS, nilEq, mapC, binH, binS2, structS, eqL, eqF, binS, arrS, isI, tupS, stor, storL, Value.oneCell', minS, maxS, capS, true_and, and_true, Nat.reduceAdd, Nat.reduceSub, Nat.reduceMul, Nat.reduceLT, Nat.reduceLeDiff, Nat.reduceEqDiff, Nat.reduceBEq, Int.reduceToNat, Int.reduceNeg, Nat.zero_add, Nat.add_zero, Nat.sub_self, Nat.sub_zero, Nat.zero_mul, Nat.mul_one, Nat.zero_le, if_true, if_false, reduceIte, stays, inL, same1, qn, ldN, convN, lenN, List.mem_cons, List.not_mem_nil, Option.map_some, Option.map_none, cond_true, cond_false, Sx.imp_true, Sx.imp_false, implies_true, Int.reduceEq, Int.reduceNe, Int.reduceLE, Int.reduceLT, decide_true, decide_false, List.zipIdx_cons, List.zipIdx_nil, or_false, false_or, forall_eq_or_imp, forall_eq, ne_eq, reduceCtorEq, not_false_eq_true, Bool.false_eq_true, Bool.true_eq_false, Bool.not_true, Bool.not_false, notInt, numB, tabB, Array.reduceGetElem?, upG, up, nth, lay, rcB, rnm, rnmL, wrB, pcB, res91]
    exact intoR_refl (by simp) hK

end Go.Proofs.Ytloinbebkhcndaa

set_option linter.all false
set_option maxRecDepth 40000
namespace Go.Proofs.Ytloinbebkhcndaa
open Go Go.Sx

section
variable {α : Type} [DecidableEq α]
/-- A list into which one comes that isn't there. -/
def ins (D : List α) (x : α) : List α := if x ∈ D then D else D ++ [x]
end
theorem bn_snoc {n : Nat} {born : Nat → Nat} {clock : Nat} (h : Bn n born clock) : Bn (n + 1) (fun j => if j < n then born j else clock) (clock + 1) := by
  refine ⟨fun j hj => ?_, fun i j hi hj he => ?_⟩
  · simp only
    split
    · rename_i h1; have := h.1 j h1; omega
    · omega
  · simp only at he
    split at he <;> split at he
    · exact h.2 i j (by assumption) (by assumption) he
    · have := h.1 i (by assumption); omega
    · have := h.1 j (by assumption); omega
    · omega
theorem bn_zero (born : Nat → Nat) (clock : Nat) : Bn 0 born clock := ⟨fun j hj => absurd hj (by omega), fun i j hi => absurd hi (by omega)⟩
theorem bn_one : Bn 1 (fun _ => 0) 1 := ⟨fun j _ => Nat.zero_lt_one, fun i j hi hj _ => by omega⟩
end Go.Proofs.Ytloinbebkhcndaa

set_option linter.all false
set_option maxRecDepth 40000
namespace Go.Proofs.Ytloinbebkhcndaa
open Go Go.Sx
end Go.Proofs.Ytloinbebkhcndaa

set_option linter.all false
set_option maxRecDepth 40000
namespace Go.Proofs.Ytloinbebkhcndaa
open Go Go.Sx

section
variable {P : Pr} (hP : P.p = Try.prog) {qs : List Nat} {h : List Chunk} {k1 k2 : Nat} {w1 w2 : Bool}
include hP
omit hP in
theorem SeqT.none (hP : P.p = Try.prog) : SeqT P qs h (.fn (.func 106) [] []) [] := fun ρ w X hk hH => by
  rw [hP]
  exact ⟨106, [], fun _ => False, rfl, gives106 _ (fun b hb => hb.elim), fun b hb => hb.elim⟩
end
end Go.Proofs.Ytloinbebkhcndaa

set_option linter.all false
set_option maxRecDepth 40000
namespace Go.Proofs.Ytloinbebkhcndaa
open Go Go.Sx
end Go.Proofs.Ytloinbebkhcndaa

set_option linter.all false
set_option maxRecDepth 40000
namespace Go.Proofs.Ytloinbebkhcndaa
open Go Go.Sx

/-! ### Sorted rows of texts -/
theorem sl_lt (x y : List UInt8) : Op.bytesLess (ByteArray.mk ⟨x⟩).toList (ByteArray.mk ⟨y⟩).toList = decide (x < y) := by
  rw [ByteArray.toList_eq, ByteArray.toList_eq]
  show Op.bytesLess x y = _
  induction x generalizing y with
  | nil => cases y <;> simp [Op.bytesLess]
  | cons a x ih =>
    cases y with
    | nil => simp [Op.bytesLess]
    | cons b y =>
      rw [Op.bytesLess, ih y]
      simp only [List.cons_lt_cons_iff]
      by_cases h1 : a < b <;> by_cases h2 : a = b <;> by_cases h3 : x < y <;> simp [h1, h2, h3]
theorem sl_eq (x y : List UInt8) : ((ByteArray.mk ⟨x⟩).toList == (ByteArray.mk ⟨y⟩).toList) = (x == y) := by rw [ByteArray.toList_eq, ByteArray.toList_eq]
abbrev Str := List UInt8
theorem str_tri (a b : Str) : a < b ∨ a = b ∨ b < a := by
  rcases Classical.em (a < b) with h | h
  · exact .inl h
  · rcases Classical.em (b < a) with h2 | h2
    · exact .inr (.inr h2)
    · exact .inr (.inl (List.le_antisymm (List.not_lt.1 h2) (List.not_lt.1 h)))
/-- Strictly rising. -/
def Ris (M : List Str) : Prop := List.Pairwise (fun a b => a < b) M
/-- at is where k belongs. -/
def AtK (M : List Str) (k : Str) (p : Nat) : Prop := p ≤ M.length ∧ (∀ j, j < p → M.getD j default < k) ∧ (p < M.length → ¬ M.getD p default < k)
theorem getD_mem' {M : List Str} {i : Nat} (h : i < M.length) : M.getD i default ∈ M := by
  rw [List.getD_eq_getElem?_getD, List.getElem?_eq_getElem h]
  exact List.getElem_mem h
theorem Ris_lt {M : List Str} (h : Ris M) {i j : Nat} (hij : i < j) (hj : j < M.length) : M.getD i default < M.getD j default := by
  have := List.pairwise_iff_getElem.1 h i j (by omega) hj hij
  simpa [List.getD_eq_getElem?_getD, List.getElem?_eq_getElem hj, List.getElem?_eq_getElem (show i < M.length by omega)] using this
theorem AtK_mem {M : List Str} {k : Str} {p : Nat} (hr : Ris M) (h : AtK M k p) : k ∈ M ↔ p < M.length ∧ M.getD p default = k := by
  constructor
  · intro hk
    obtain ⟨i, hi, rfl⟩ := List.getElem_of_mem hk
    have e : M[i] = M.getD i default := by rw [List.getD_eq_getElem?_getD, List.getElem?_eq_getElem hi]; rfl
    rw [e] at h ⊢
    rcases Nat.lt_trichotomy i p with h1 | h1 | h1
    · exact absurd (h.2.1 i h1) (List.lt_irrefl _)
    · subst h1; exact ⟨hi, rfl⟩
    · exact absurd (Ris_lt hr h1 hi) (h.2.2 (by omega))
  · rintro ⟨h1, rfl⟩
    exact getD_mem' h1
theorem take_lt {M : List Str} {k : Str} {p : Nat} (h : AtK M k p) : ∀ y ∈ M.take p, y < k := fun y hy => by
  obtain ⟨i, hi, rfl⟩ := List.getElem_of_mem hy
  rw [List.length_take] at hi
  have := h.2.1 i (by omega)
  rw [List.getElem_take]
  rwa [List.getD_eq_getElem?_getD, List.getElem?_eq_getElem (by omega)] at this
theorem drop_ge {M : List Str} {k : Str} {p : Nat} (hr : Ris M) (h : AtK M k p) : ∀ y ∈ M.drop p, ¬ y < k := fun y hy => by
  obtain ⟨i, hi, rfl⟩ := List.getElem_of_mem hy
  rw [List.length_drop] at hi
  rw [List.getElem_drop]
  have h1 := h.2.2 (by omega)
  intro h2
  rcases Nat.eq_zero_or_pos i with h0 | h0
  · subst h0
    rw [List.getD_eq_getElem?_getD, List.getElem?_eq_getElem (by omega)] at h1
    exact h1 (by simpa using h2)
  · have h3 := Ris_lt hr (show p < p + i by omega) (by omega)
    rw [List.getD_eq_getElem?_getD (l := M) (i := p + i), List.getElem?_eq_getElem (by omega)] at h3
    exact h1 (List.lt_trans h3 h2)
def insAt (M : List Str) (p : Nat) (k : Str) : List Str := M.take p ++ [k] ++ M.drop p
theorem insAt_len (M : List Str) (p : Nat) (k : Str) (h : p ≤ M.length) : (insAt M p k).length = M.length + 1 := by
  simp [insAt]; omega
theorem mem_insAt {M : List Str} {p : Nat} {k y : Str} : y ∈ insAt M p k ↔ y ∈ M ∨ y = k := by
  have : y ∈ M ↔ y ∈ M.take p ∨ y ∈ M.drop p := by rw [← List.mem_append, List.take_append_drop]
  simp only [insAt, List.mem_append, List.mem_singleton, this]
  constructor
  · rintro ((h | h) | h)
    · exact .inl (.inl h)
    · exact .inr h
    · exact .inl (.inr h)
  · rintro ((h | h) | h)
    · exact .inl (.inl h)
    · exact .inr h
    · exact .inl (.inr h)
theorem Ris_insAt {M : List Str} {p : Nat} {k : Str} (hr : Ris M) (h : AtK M k p) (hk : k ∉ M) : Ris (insAt M p k) := by
  have h0 : Ris (M.take p ++ M.drop p) := by rw [List.take_append_drop]; exact hr
  unfold Ris at h0 ⊢
  rw [List.pairwise_append] at h0
  unfold insAt
  rw [List.pairwise_append, List.pairwise_append]
  refine ⟨⟨h0.1, List.pairwise_singleton _ _, ?_⟩, h0.2.1, ?_⟩
  · intro a ha b hb
    simp only [List.mem_singleton] at hb
    subst hb
    exact take_lt h a ha
  · intro a ha b hb
    rw [List.mem_append, List.mem_singleton] at ha
    rcases ha with ha | rfl
    · exact h0.2.2 a ha b hb
    · rcases str_tri a b with h1 | h1 | h1
      · exact h1
      · subst h1; exact absurd (List.mem_of_mem_drop hb) hk
      · exact absurd h1 (drop_ge hr h b hb)
theorem Ris_nodup {M : List Str} (h : Ris M) : M.Nodup := h.imp fun {a b} hab => by rintro rfl; exact List.lt_irrefl _ hab
/-- A rising row of a list's texts is that list, sorted. -/
theorem Ris_sort {M D : List Str} (hr : Ris M) (hD : D.Nodup) (hm : ∀ y, y ∈ M ↔ y ∈ D) : (D.mergeSort fun x y => decide (x ≤ y)) = M := by
  have hp : M.Perm D := (List.perm_ext_iff_of_nodup (Ris_nodup hr) hD).2 hm
  rw [← sortS_perm hp]
  exact List.mergeSort_of_pairwise (hr.imp fun {a b} hab => by simpa using List.le_of_lt hab)
theorem insAt_getD (M : List Str) (p : Nat) (k : Str) (hp : p ≤ M.length) (i : Nat) : (insAt M p k).getD i default = if i < p then M.getD i default else if i = p then k else M.getD (i - 1) default := by
  unfold insAt
  rw [List.getD_eq_getElem?_getD]
  by_cases h1 : i < p
  · rw [if_pos h1, List.getElem?_append_left (by simp; omega), List.getElem?_append_left (by simp; omega), List.getElem?_take_of_lt h1, ← List.getD_eq_getElem?_getD]
  · rw [if_neg h1]
    by_cases h2 : i = p
    · subst h2
      rw [if_pos rfl, List.getElem?_append_left (by simp; omega), List.getElem?_append_right (by simp; omega)]
      simp [Nat.min_eq_left hp]
    · rw [if_neg h2, List.getElem?_append_right (by simp; omega), List.getElem?_drop, ← List.getD_eq_getElem?_getD]
      congr 1
      simp [Nat.min_eq_left hp]
      omega
end Go.Proofs.Ytloinbebkhcndaa

set_option linter.all false
set_option maxRecDepth 40000
namespace Go.Proofs.Ytloinbebkhcndaa
open Go Go.Sx
/-- What holds between the calls. -/
structure SetI (f : Bool) (D M : List Str) (born : Nat → Nat) (clock k : Nat) : Prop where
  nf : f = false → D = []
  nd : D.Nodup
  bn : Bn D.length born clock
  rs : Ris M
  mm : ∀ y, y ∈ M ↔ y ∈ D
  ln : M.length ≤ k
theorem SetI.len {f D M born clock k} (h : SetI f D M born clock k) : D.length = M.length := ((List.perm_ext_iff_of_nodup (Ris_nodup h.rs) h.nd).2 h.mm).length_eq.symm
theorem SetI.same {f D M born clock k} (h : SetI f D M born clock k) : SetI f D M born clock (k + 1) := ⟨h.nf, h.nd, h.bn, h.rs, h.mm, Nat.le_succ_of_le h.ln⟩
theorem nodup_snoc {α : Type} {D : List α} {x : α} (h : D.Nodup) (hx : x ∉ D) : (D ++ [x]).Nodup := by
  rw [List.nodup_append]
  exact ⟨h, List.pairwise_singleton _ x, fun a ha b hb e => hx (by rw [List.mem_singleton] at hb; rw [← hb, ← e]; exact ha)⟩
theorem SetI.ins {f D M born clock k} (h : SetI f D M born clock k) {x : Str} {a : Nat} (ha : AtK M x a) (hx : x ∉ M) : SetI true (D ++ [x]) (insAt M a x) (fun j => if j < D.length then born j else clock) (clock + 1) (k + 1) :=
  ⟨(fun h => by cases h), nodup_snoc h.nd fun hm => hx ((h.mm x).2 hm), by rw [List.length_append]; exact bn_snoc h.bn, Ris_insAt h.rs ha hx, fun y => by rw [mem_insAt, h.mm y, List.mem_append, List.mem_singleton], by rw [insAt_len M a x ha.1]; have := h.ln; omega⟩
theorem SetI.first {f born clock k} (h : SetI f [] [] born clock k) {x : Str} (ha : AtK [] x 0) (hx : x ∉ ([] : List Str)) : SetI true [x] (insAt [] 0 x) (fun _ => 0) 1 (k + 1) := by
  have q := h.ins ha hx
  exact ⟨q.nf, q.nd, bn_one, q.rs, q.mm, q.ln⟩
theorem SeqT.valsL {P : Pr} (hP : P.p = Try.prog) {qs : List Nat} {h : List Chunk} {k1 k2 : Nat} {w1 w2 : Bool} {L : List Str} (n : Nat) (hn : n ≤ 9223372036854775807) (A : Nat → Str) (hL : L = (List.range n).map A) (h1 : lookH h k1 = .cells w1 [.osl k2 0 0 1 n]) (h2 : lookH h k2 = .row w2 n 1 fun i => .str ⟨⟨A i⟩⟩) (m1 : k1 ∈ qs) (m2 : k2 ∈ qs) : SeqT P qs h (.fn (.func 107) [] [.ptr k1 0]) L :=
  hL ▸ SeqT.vals hP n hn A h1 h2 m1 m2
end Go.Proofs.Ytloinbebkhcndaa

set_option linter.all false
set_option maxRecDepth 40000
namespace Go.Proofs.Ytloinbebkhcndaa
open Go Go.Sx
end Go.Proofs.Ytloinbebkhcndaa

set_option linter.all false
set_option maxRecDepth 40000
namespace Go.Proofs.Ytloinbebkhcndaa
open Go Go.Sx

def fxT (β : Str → Bool) : List SV → Option SV
  | [.str ⟨⟨x⟩⟩] => some (.bool (β x))
  | _ => none
theorem fxT_1 (β : Str → Bool) (x : Str) : fxT β [.str ⟨⟨x⟩⟩] = some (.bool (β x)) := rfl
theorem fxT_ok {β : Str → Bool} {args : List SV} {r : SV} (h : fxT β args = some r) : ok 0 r := by
  unfold fxT at h
  split at h <;> cases h
  trivial
theorem res120 : Try.f120.results.toList = [] := rfl
theorem res113 : Try.f113.results.toList = [.tmp 4] := rfl
theorem res98 : Try.f98.results.toList = [.cell 4 9, .cell 5 4] := rfl
def pl120 : Nat → Plan := fun _ => .nil

def pl113 : Nat → Plan := fun _ => .nil

def pl98 : Nat → Plan := fun _ => .nil

theorem gives120 (f : FuncId) (lb : List Value) (f2 : FuncId) (lb2 : List Value) (n : Nat) (A : Nat → List UInt8) (β : Str → Bool) (N : Nat) (hN : N = cntB (fun i => β (A i)) n) (ys : Nat → List UInt8) (hy : ∀ i, i < n → β (A i) = true → ys (cntB (fun i => β (A i)) i) = A i) {ρ : Env} {B : Nat → Prop} {w0 : World} (hB : ∀ b, B b → b < w0.heap.size) (hH : ∀ k c, [Chunk.cells false [.v (.func (.func f2) #[] ⟨lb2⟩)], .cells false [.v (.func (.func f) #[] ⟨lb⟩)]][k]? = some c → Holds ρ w0 k c ∧ (Real ρ k c → B (ρ k).b))
    (hs : Gives Try.prog f lb B n (fun i => .string ⟨⟨A i⟩⟩) w0) (hf : Pures B (.func (.func f2) #[] ⟨lb2⟩) (fxT β) w0) : Gives Try.prog 120 (denL ρ [.ptr 0 0, .ptr 1 0]) B N (fun i => .string ⟨⟨ys i⟩⟩) w0 := by
  refine gives_of_codeY (P := seqfPr Try.prog f lb n (fun i => .string ⟨⟨A i⟩⟩) (.func (.func f2) #[] ⟨lb2⟩) (fxT β) ⟨[.str ⟨⟨[]⟩⟩], _, rfl⟩) tabOk Try.func120 (by kernel_rfl) rfl res120 (Nat.le_of_ble_eq_true rfl) (by simp [slot, lkL, fixed, rg, renH, chB, lookH, eqvL, eqv, eqvF, rnmL, rnm, liveN, lvB, goodH, gdB, okL, ok, sz, szL, storL, stor, renT, okT, pcB, Value.oneCell']) (by simp [okL, ok]) (by simp [Chunk.wr]) (fun l => ?_) hB hH
    (fun w hw hb => ⟨⟨B, fun b hb hx => hx.elim id fun h => h.2 hb, hs.later hw hb⟩, B, fun b hb hx => hx.elim id fun h => h.2 hb, hf.later hw hb⟩) (fv := (.func (.func f2) #[] ⟨lb2⟩)) (fx := fxT β) (fun args r har => ⟨fxT_ok har, fun ρ w X hk => hk.2.elim fun B h => ⟨B, h.1, (h.2 args r har).2 ρ⟩⟩)
  refine codeY_of_vc (pl := pl120) tabOk follows_mixed (by kernel_rfl) ?_
  rw [Try.ntmps120]
  simp -implicitDefEqProofs (maxSteps := 1000000) (disch := omega) only [↓vcB, ↓gd, ↓opP, ↓qv, ↓ef, ↓bslS, ↓stS, ↓mkS, ↓rangeS, ↓nextS, ↓entryS, ↓delS, ↓mupS, ↓appS, ↓s2bS, ↓resS, evB, Sx.look, slot, ↓lkL, putS, putO, argsL, ↓reduceIte, ofV, of1, lookH, putH, List.length_cons, List.length_nil, List.length_append, List.replicate, List.append, List.cons_append, List.nil_append, List.append_assoc, List.map_cons, List.map_nil, convS, fldA, nthT, idxA, idxS, fldS, oslN, bnd, slS, unS, valI, lenS, lookS, takeC, psB, asRow, csB, Int.toNat_natCast, Int.le_refl, and_self, rdF, Ent.row, ldS, sz, szL, wrF, bldF, plT, bldS, srcS, nilS, nilEq, mapC, binH, binS2, structS, eqL, eqF, binS, arrS, isI, tupS, stor, storL, Value.oneCell', minS, maxS, capS, true_and, and_true, Nat.reduceAdd, Nat.reduceSub, Nat.reduceMul, Nat.reduceLT, Nat.reduceLeDiff, Nat.reduceEqDiff, Nat.reduceBEq, Int.reduceToNat, Int.reduceNeg, Nat.zero_add, Nat.add_zero, Nat.sub_self, Nat.sub_zero, Nat.zero_mul, Nat.mul_one, Nat.zero_le, if_true, if_false, reduceIte, stays, inL, same1, qn, ldN, convN, lenN, List.mem_cons, List.not_mem_nil, Option.map_some, Option.map_none, cond_true, cond_false, Sx.imp_true, Sx.imp_false, implies_true, Int.reduceEq, Int.reduceNe, Int.reduceLE, Int.reduceLT, decide_true, decide_false, List.zipIdx_cons, List.zipIdx_nil, or_false, false_or, forall_eq_or_imp, forall_eq, ne_eq, reduceCtorEq, not_false_eq_true, Bool.false_eq_true, Bool.true_eq_false, Bool.not_true, Bool.not_false, notInt, numB, tabB, ↓vyB, ↓opY, roA, liveA, lvB, frz, frz1, true_or, Array.reduceGetElem?, upG, up, nth, lay, rcB, rnm, rnmL, wrB, pcB]
  refine callP_weak (c89 f lb _ _ ?_)
  simp -implicitDefEqProofs (maxSteps := 1000000) (disch := omega) only [↓vcB, ↓gd, ↓opP, ↓qv, ↓ef, ↓bslS, ↓stS, ↓mkS, ↓rangeS, ↓nextS, ↓entryS, ↓delS, ↓mupS, ↓appS, ↓s2bS, ↓resS, evB, Sx.look, slot, ↓lkL, putS, putO, argsL, ↓reduceIte, ofV, of1, lookH, putH, List.length_cons, List.length_nil, List.length_append, List.replicate, List.append, List.cons_append, List.nil_append, List.append_assoc, List.map_cons, List.map_nil, convS, fldA, nthT, idxA, idxS, fldS, oslN, bnd, slS, unS, valI, lenS, lookS, takeC, psB, asRow, csB, Int.toNat_natCast, Int.le_refl, and_self, rdF, Ent.row, ldS, sz, szL, wrF, bldF, plT, bldS, srcS, nilS, nilEq, mapC, binH, binS2, structS, eqL, eqF, binS, arrS, isI, tupS, stor, storL, Value.oneCell', minS, maxS, capS, true_and, and_true, Nat.reduceAdd, Nat.reduceSub, Nat.reduceMul, Nat.reduceLT, Nat.reduceLeDiff, Nat.reduceEqDiff, Nat.reduceBEq, Int.reduceToNat, Int.reduceNeg, Nat.zero_add, Nat.add_zero, Nat.sub_self, Nat.sub_zero, Nat.zero_mul, Nat.mul_one, Nat.zero_le, if_true, if_false, reduceIte, stays, inL, same1, qn, ldN, convN, lenN, List.mem_cons, List.not_mem_nil, Option.map_some, Option.map_none, cond_true, cond_false, Sx.imp_true, Sx.imp_false, implies_true, Int.reduceEq, Int.reduceNe, Int.reduceLE, Int.reduceLT, decide_true, decide_false, List.zipIdx_cons, List.zipIdx_nil, or_false, false_or, forall_eq_or_imp, forall_eq, ne_eq, reduceCtorEq, not_false_eq_true, Bool.false_eq_true, Bool.true_eq_false, Bool.not_true, Bool.not_false, notInt, numB, tabB, ↓vyB, ↓opY, roA, liveA, lvB, frz, frz1, true_or, Array.reduceGetElem?, upG, up, nth, lay, rcB, rnm, rnmL, wrB, pcB]
  refine codeY_range [] n (fun i => .str ⟨⟨A i⟩⟩) (fun _ => trivial) (by simp [roA, liveA, lookH, Chunk.live, Chunk.wr]) (by simp) (fun ρ w X hk _ => ?_) (fun i g h' => g = .run (cntB (fun i => β (A i)) i) ∧ i ≤ n ∧ h' = [.cells false [.v (.func (.func f2) #[] ⟨lb2⟩)], .cells false [.v (.func (.func f) #[] ⟨lb⟩)], .cells true [.v (.func (.yield l) #[] #[])]]) (fun i g e h' => e = .ret ∧ endsG N g) ?_ ?_ ?_ ?_
  · exact hk.1.elim fun B hk => ⟨f, lb, B, rfl, hk.2, fun b hb => .inl (hk.1 b hb)⟩
  · exact ⟨rfl, by omega, by simp [frz, inL]⟩
  · rintro i g h' hi ⟨rfl, hin, rfl⟩
    refine codeY_of_vc (pl := pl120) tabOk follows_mixed (by kernel_rfl) ?_
    simp -implicitDefEqProofs (maxSteps := 1000000) (disch := omega) only [↓vcB, ↓gd, ↓opP, ↓qv, ↓ef, ↓bslS, ↓stS, ↓mkS, ↓rangeS, ↓nextS, ↓entryS, ↓delS, ↓mupS, ↓appS, ↓s2bS, ↓resS, evB, Sx.look, slot, ↓lkL, putS, putO, argsL, ↓reduceIte, ofV, of1, lookH, putH, List.length_cons, List.length_nil, List.length_append, List.replicate, List.append, List.cons_append, List.nil_append, List.append_assoc, List.map_cons, List.map_nil, convS, fldA, nthT, idxA, idxS, fldS, oslN, bnd, slS, unS, valI, lenS, lookS, takeC, psB, asRow, csB, Int.toNat_natCast, Int.le_refl, and_self, rdF, Ent.row, ldS, sz, szL, wrF, bldF, plT, bldS, srcS, nilS, nilEq, mapC, binH, binS2, structS, eqL, eqF, binS, arrS, isI, tupS, stor, storL, Value.oneCell', minS, maxS, capS, true_and, and_true, Nat.reduceAdd, Nat.reduceSub, Nat.reduceMul, Nat.reduceLT, Nat.reduceLeDiff, Nat.reduceEqDiff, Nat.reduceBEq, Int.reduceToNat, Int.reduceNeg, Nat.zero_add, Nat.add_zero, Nat.sub_self, Nat.sub_zero, Nat.zero_mul, Nat.mul_one, Nat.zero_le, if_true, if_false, reduceIte, stays, inL, same1, qn, ldN, convN, lenN, List.mem_cons, List.not_mem_nil, Option.map_some, Option.map_none, cond_true, cond_false, Sx.imp_true, Sx.imp_false, implies_true, Int.reduceEq, Int.reduceNe, Int.reduceLE, Int.reduceLT, decide_true, decide_false, List.zipIdx_cons, List.zipIdx_nil, or_false, false_or, forall_eq_or_imp, forall_eq, ne_eq, reduceCtorEq, not_false_eq_true, Bool.false_eq_true, Bool.true_eq_false, Bool.not_true, Bool.not_false, notInt, numB, tabB, ↓vyB, ↓opY, roA, liveA, lvB, frz, frz1, true_or, Array.reduceGetElem?, upG, up, nth, lay, rcB, rnm, rnmL, wrB, pcB]
    refine codeY_of_vc (pl := pl120) tabOk follows_mixed (by kernel_rfl) ?_
    cases hb : β (A i) with
    | false =>
      simp -implicitDefEqProofs (maxSteps := 1000000) (disch := omega) only [↓vcB, ↓gd, ↓opP, ↓qv, ↓ef, ↓bslS, ↓stS, ↓mkS, ↓rangeS, ↓nextS, ↓entryS, ↓delS, ↓mupS, ↓appS, ↓s2bS, ↓resS, evB, Sx.look, slot, ↓lkL, putS, putO, argsL, ↓reduceIte, ofV, of1, lookH, putH, List.length_cons, List.length_nil, List.length_append, List.replicate, List.append, List.cons_append, List.nil_append, List.append_assoc, List.map_cons, List.map_nil, convS, fldA, nthT, idxA, idxS, fldS, oslN, bnd, slS, unS, valI, lenS, lookS, takeC, psB, asRow, csB, Int.toNat_natCast, Int.le_refl, and_self, rdF, Ent.row, ldS, sz, szL, wrF, bldF, plT, bldS, srcS, nilS, nilEq, mapC, binH, binS2, structS, eqL, eqF, binS, arrS, isI, tupS, stor, storL, Value.oneCell', minS, maxS, capS, true_and, and_true, Nat.reduceAdd, Nat.reduceSub, Nat.reduceMul, Nat.reduceLT, Nat.reduceLeDiff, Nat.reduceEqDiff, Nat.reduceBEq, Int.reduceToNat, Int.reduceNeg, Nat.zero_add, Nat.add_zero, Nat.sub_self, Nat.sub_zero, Nat.zero_mul, Nat.mul_one, Nat.zero_le, if_true, if_false, reduceIte, stays, inL, same1, qn, ldN, convN, lenN, List.mem_cons, List.not_mem_nil, Option.map_some, Option.map_none, cond_true, cond_false, Sx.imp_true, Sx.imp_false, implies_true, Int.reduceEq, Int.reduceNe, Int.reduceLE, Int.reduceLT, decide_true, decide_false, List.zipIdx_cons, List.zipIdx_nil, or_false, false_or, forall_eq_or_imp, forall_eq, ne_eq, reduceCtorEq, not_false_eq_true, Bool.false_eq_true, Bool.true_eq_false, Bool.not_true, Bool.not_false, notInt, numB, tabB, ↓vyB, ↓opY, roA, liveA, lvB, frz, frz1, true_or, Array.reduceGetElem?, upG, up, nth, lay, rcB, rnm, rnmL, wrB, pcB, fxT_1, hb]
      refine intoY_refl ⟨⟨by rw [cntB_succ]; simp [hb], by omega, rfl⟩, by simp [roA, liveA, lookH, frz, frz1, inL, Chunk.live, Chunk.wr]⟩
    | true =>
      have hlt := cntB_lt (fun i => β (A i)) hi hb
      simp -implicitDefEqProofs (maxSteps := 1000000) (disch := omega) only [↓vcB, ↓gd, ↓opP, ↓qv, ↓ef, ↓bslS, ↓stS, ↓mkS, ↓rangeS, ↓nextS, ↓entryS, ↓delS, ↓mupS, ↓appS, ↓s2bS, ↓resS, evB, Sx.look, slot, ↓lkL, putS, putO, argsL, ↓reduceIte, ofV, of1, lookH, putH, List.length_cons, List.length_nil, List.length_append, List.replicate, List.append, List.cons_append, List.nil_append, List.append_assoc, List.map_cons, List.map_nil, convS, fldA, nthT, idxA, idxS, fldS, oslN, bnd, slS, unS, valI, lenS, lookS, takeC, psB, asRow, csB, Int.toNat_natCast, Int.le_refl, and_self, rdF, Ent.row, ldS, sz, szL, wrF, bldF, plT, bldS, srcS, nilS, nilEq, mapC, binH, binS2, structS, eqL, eqF, binS, arrS, isI, tupS, stor, storL, Value.oneCell', minS, maxS, capS, true_and, and_true, Nat.reduceAdd, Nat.reduceSub, Nat.reduceMul, Nat.reduceLT, Nat.reduceLeDiff, Nat.reduceEqDiff, Nat.reduceBEq, Int.reduceToNat, Int.reduceNeg, Nat.zero_add, Nat.add_zero, Nat.sub_self, Nat.sub_zero, Nat.zero_mul, Nat.mul_one, Nat.zero_le, if_true, if_false, reduceIte, stays, inL, same1, qn, ldN, convN, lenN, List.mem_cons, List.not_mem_nil, Option.map_some, Option.map_none, cond_true, cond_false, Sx.imp_true, Sx.imp_false, implies_true, Int.reduceEq, Int.reduceNe, Int.reduceLE, Int.reduceLT, decide_true, decide_false, List.zipIdx_cons, List.zipIdx_nil, or_false, false_or, forall_eq_or_imp, forall_eq, ne_eq, reduceCtorEq, not_false_eq_true, Bool.false_eq_true, Bool.true_eq_false, Bool.not_true, Bool.not_false, notInt, numB, tabB, ↓vyB, ↓opY, roA, liveA, lvB, frz, frz1, true_or, Array.reduceGetElem?, upG, up, nth, lay, rcB, rnm, rnmL, wrB, pcB, fxT_1, hb]
      exact ⟨⟨by omega, fun _ => by rw [hy i hi hb]; rfl⟩, intoY_refl ⟨⟨by rw [cntB_succ]; simp [hb], by omega, rfl⟩, by simp [roA, liveA, lookH, frz, frz1, inL, Chunk.live, Chunk.wr]⟩, rfl, intoY_refl ⟨endsG_stop (by omega), by simp [roA, liveA, lookH, frz, frz1, inL, Chunk.live, Chunk.wr]⟩⟩
  · rintro g h' ⟨rfl, hin, rfl⟩
    exact endsG_run hN.symm
  · rintro i g e h' hi ⟨rfl, he⟩
    exact ⟨rfl, he⟩
section
variable {P : Pr} (hP : P.p = Try.prog) {qs : List Nat} {h : List Chunk} {sv : SV} {L : List Str} {k1 k2 : Nat} {w1 w2 : Bool}
include hP
theorem SeqT.keep (hs : SeqT P qs h sv L) {sf : SV} {β : Str → Bool} (hf : FunS P qs h sf (fxT β)) (h1 : lookH h k1 = .cells w1 [sf]) (h2 : lookH h k2 = .cells w2 [sv]) (m1 : k1 ∈ qs) (m2 : k2 ∈ qs) :
    SeqT P qs h (.fn (.func 120) [] [.ptr k1 0, .ptr k2 0]) (L.filter β) := by
  intro ρ w X hk hH
  obtain ⟨f, lb, B, hd, hg, hB⟩ := hs ρ w X hk hH
  obtain ⟨f2, lb2, B2, hd2, hs2, hp2, hB2⟩ := hf ρ w X hk hH
  obtain ⟨ρ', B', e1, e2, e3, e4, e5⟩ := caps2 (B := fun b => B b ∨ B2 b) hH h1 h2 m1 m2 (fun b hb => hb.elim (hB b) (hB2 b)) (fun b hb => hb.elim (hg.1 b) (hs2 b)) (s1' := .v (.func (.func f2) #[] ⟨lb2⟩)) (s2' := .v (.func (.func f) #[] ⟨lb⟩)) (fun _ => hd2.symm) (fun _ => hd.symm)
  rw [hP] at hg hp2 ⊢
  refine ⟨120, denL ρ [.ptr k1 0, .ptr k2 0], B', rfl, ?_, e5⟩
  rw [← e1]
  have key : ∀ i, i ≤ L.length → ((L.take i).filter β).length = cntB (fun i => β (L.getD i default)) i := by
    intro i
    induction i with
    | zero => intro _; rfl
    | succ i ih =>
      intro hi
      rw [cntB_succ, ← ih (by omega), List.take_add_one, List.filter_append, List.length_append, List.getD_eq_getElem?_getD, List.getElem?_eq_getElem (show i < L.length by omega)]
      cases hb : β L[i] <;> simp [hb]
  have hy : ∀ i, i < L.length → β (L.getD i default) = true → (L.filter β).getD (cntB (fun i => β (L.getD i default)) i) default = L.getD i default := by
    intro i hi hb
    have h3 : L.filter β = (L.take i).filter β ++ (L.drop i).filter β := by rw [← List.filter_append, List.take_append_drop]
    rw [h3, List.getD_eq_getElem?_getD, ← key i (by omega), List.getElem?_append_right (Nat.le_refl _), Nat.sub_self, List.drop_eq_getElem_cons hi, List.filter_cons]
    have h4 : L.getD i default = L[i] := by rw [List.getD_eq_getElem?_getD, List.getElem?_eq_getElem hi]; rfl
    rw [h4] at hb ⊢
    rw [if_pos hb]
    rfl
  exact (gives120 f lb f2 lb2 L.length (fun i => L.getD i default) β _ rfl (fun i => (L.filter β).getD i default) hy e3 e4 (hg.wider (fun b hb => e2 b (.inl hb)) e3) fun args r har => ⟨(hp2 args r har).1, fun ρ => ((hp2 args r har).2 ρ).wider (fun b hb => e2 b (.inr hb)) e3⟩).cong (by rw [← key _ (Nat.le_refl _), List.take_length]) fun i hi => rfl
end
theorem c113v (f : FuncId) (lb : List Value) (f2 : FuncId) (lb2 : List Value) (h : List Chunk) (K : Tok → SV → List Chunk → Prop) (hK : K .mk (.fn (.func 120) [] [.ptr (h.length + 1) 0, .ptr h.length 0]) (h ++ [.cells true [.v (.func (.func f) #[] ⟨lb⟩)], .cells true [.v (.func (.func f2) #[] ⟨lb2⟩)]])) : callP Try.prog 113 [.v (.func (.func f) #[] ⟨lb⟩), .v (.func (.func f2) #[] ⟨lb2⟩)] h K := by
  refine callP_of_code tabOk Try.func113 (by kernel_rfl) rfl (Nat.le_of_ble_eq_true rfl) (codeP_of_vc (pl := pl113) tabOk follows_mixed (by kernel_rfl) ?_)
  rw [Try.ntmps113]
  simp -implicitDefEqProofs (maxSteps := 1000000) (disch := omega) only [↓vcB, ↓gd, ↓opP, ↓qv, ↓ef, ↓bslS, ↓stS, ↓mkS, ↓rangeS, ↓nextS, ↓entryS, ↓delS, ↓mupS, ↓appS, ↓s2bS, ↓resS, evB, Sx.look, slot, ↓lkL, putS, putO, argsL, ↓reduceIte, ofV, of1, lookH, putH, List.length_cons, List.length_nil, List.length_append, List.replicate, List.append, List.cons_append, List.nil_append, List.append_assoc, List.map_cons, List.map_nil, convS, fldA, nthT, idxA, idxS, fldS, oslN, bnd, slS, unS, valI, lenS, lookS, takeC, psB, asRow, csB, Int.toNat_natCast, Int.le_refl, and_self, rdF, Ent.row, ldS, sz, szL, wrF, bldF, plT, bldS, srcS, nilS, nilEq, mapC, binH, binS2, structS, eqL, eqF, binS, arrS, isI, tupS, stor, storL, Value.oneCell', minS, maxS, capS, true_and, and_true, Nat.reduceAdd, Nat.reduceSub, Nat.reduceMul, Nat.reduceLT, Nat.reduceLeDiff, Nat.reduceEqDiff, Nat.reduceBEq, Int.reduceToNat, Int.reduceNeg, Nat.zero_add, Nat.add_zero, Nat.sub_self, Nat.sub_zero, Nat.zero_mul, Nat.mul_one, Nat.zero_le, if_true, if_false, reduceIte, stays, inL, same1, qn, ldN, convN, lenN, List.mem_cons, List.not_mem_nil, Option.map_some, Option.map_none, cond_true, cond_false, Sx.imp_true, Sx.imp_false, implies_true, Int.reduceEq, Int.reduceNe, Int.reduceLE, Int.reduceLT, decide_true, decide_false, List.zipIdx_cons, List.zipIdx_nil, or_false, false_or, forall_eq_or_imp, forall_eq, ne_eq, reduceCtorEq, not_false_eq_true, Bool.false_eq_true, Bool.true_eq_false, Bool.not_true, Bool.not_false, notInt, numB, tabB, Array.reduceGetElem?, upG, up, nth, lay, rcB, rnm, rnmL, wrB, pcB, res113, Value.oneCell']
  exact intoR_refl (by simp) hK
theorem c98k (f : FuncId) (lb : List Value) (f2 : FuncId) (lb2 : List Value) (L : List (List UInt8)) (β : Str → Bool) (x : Str) (is : Bool) (hx : x = (L.filter β).getD 0 default) (his : is = decide (0 < (L.filter β).length)) :
    callP (seqfPr Try.prog f lb L.length (fun i => .string ⟨⟨L.getD i default⟩⟩) (.func (.func f2) #[] ⟨lb2⟩) (fxT β) ⟨[.str ⟨⟨[]⟩⟩], _, rfl⟩) 98 [.v (.func (.func f) #[] ⟨lb⟩), .v (.func (.func f2) #[] ⟨lb2⟩)] [] fun _ v h' => v = .tup [.str ⟨⟨x⟩⟩, .bool is] ∧ h' = [] := by
  refine callP_of_codeY (P := seqfPr Try.prog f lb L.length (fun i => .string ⟨⟨L.getD i default⟩⟩) (.func (.func f2) #[] ⟨lb2⟩) (fxT β) ⟨[.str ⟨⟨[]⟩⟩], _, rfl⟩) tabOk Try.func98 (by kernel_rfl) rfl (Nat.le_of_ble_eq_true rfl) (fv := .nilFunc) (fx := fun _ => none) (nofx _) ?_
  refine codeY_of_vc (pl := pl98) tabOk follows_mixed (by kernel_rfl) ?_
  rw [Try.ntmps98]
  simp -implicitDefEqProofs (maxSteps := 1000000) (disch := omega) only [↓vcB, ↓gd, ↓opP, ↓qv, ↓ef, ↓bslS, ↓stS, ↓mkS, ↓rangeS, ↓nextS, ↓entryS, ↓delS, ↓mupS, ↓appS, ↓s2bS, ↓resS, evB, Sx.look, slot, ↓lkL, putS, putO, argsL, ↓reduceIte, ofV, of1, lookH, putH, List.length_cons, List.length_nil, List.length_append, List.replicate, List.append, List.cons_append, List.nil_append, List.append_assoc, List.map_cons, List.map_nil, convS, fldA, nthT, idxA, idxS, fldS, oslN, bnd, slS, unS, valI, lenS, lookS, takeC, psB, asRow, csB, Int.toNat_natCast, Int.le_refl, and_self, rdF, Ent.row, ldS, sz, szL, wrF, bldF, plT, bldS, srcS, nilS, nilEq, mapC, binH, binS2, structS, eqL, eqF, binS, arrS, isI, tupS, stor, storL, Value.oneCell', minS, maxS, capS, true_and, and_true, Nat.reduceAdd, Nat.reduceSub, Nat.reduceMul, Nat.reduceLT, Nat.reduceLeDiff, Nat.reduceEqDiff, Nat.reduceBEq, Int.reduceToNat, Int.reduceNeg, Nat.zero_add, Nat.add_zero, Nat.sub_self, Nat.sub_zero, Nat.zero_mul, Nat.mul_one, Nat.zero_le, if_true, if_false, reduceIte, stays, inL, same1, qn, ldN, convN, lenN, List.mem_cons, List.not_mem_nil, Option.map_some, Option.map_none, cond_true, cond_false, Sx.imp_true, Sx.imp_false, implies_true, Int.reduceEq, Int.reduceNe, Int.reduceLE, Int.reduceLT, decide_true, decide_false, List.zipIdx_cons, List.zipIdx_nil, or_false, false_or, forall_eq_or_imp, forall_eq, ne_eq, reduceCtorEq, not_false_eq_true, Bool.false_eq_true, Bool.true_eq_false, Bool.not_true, Bool.not_false, notInt, numB, tabB, ↓vyB, ↓opY, roA, liveA, lvB, frz, frz1, true_or, Array.reduceGetElem?, upG, up, nth, lay, rcB, rnm, rnmL, wrB, pcB, Value.oneCell']
  refine callP_weak (c113v f lb f2 lb2 _ _ ?_)
  simp -implicitDefEqProofs (maxSteps := 1000000) (disch := omega) only [↓vcB, ↓gd, ↓opP, ↓qv, ↓ef, ↓bslS, ↓stS, ↓mkS, ↓rangeS, ↓nextS, ↓entryS, ↓delS, ↓mupS, ↓appS, ↓s2bS, ↓resS, evB, Sx.look, slot, ↓lkL, putS, putO, argsL, ↓reduceIte, ofV, of1, lookH, putH, List.length_cons, List.length_nil, List.length_append, List.replicate, List.append, List.cons_append, List.nil_append, List.append_assoc, List.map_cons, List.map_nil, convS, fldA, nthT, idxA, idxS, fldS, oslN, bnd, slS, unS, valI, lenS, lookS, takeC, psB, asRow, csB, Int.toNat_natCast, Int.le_refl, and_self, rdF, Ent.row, ldS, sz, szL, wrF, bldF, plT, bldS, srcS, nilS, nilEq, mapC, binH, binS2, structS, eqL, eqF, binS, arrS, isI, tupS, stor, storL, Value.oneCell', minS, maxS, capS, true_and, and_true, Nat.reduceAdd, Nat.reduceSub, Nat.reduceMul, Nat.reduceLT, Nat.reduceLeDiff, Nat.reduceEqDiff, Nat.reduceBEq, Int.reduceToNat, Int.reduceNeg, Nat.zero_add, Nat.add_zero, Nat.sub_self, Nat.sub_zero, Nat.zero_mul, Nat.mul_one, Nat.zero_le, if_true, if_false, reduceIte, stays, inL, same1, qn, ldN, convN, lenN, List.mem_cons, List.not_mem_nil, Option.map_some, Option.map_none, cond_true, cond_false, Sx.imp_true, Sx.imp_false, implies_true, Int.reduceEq, Int.reduceNe, Int.reduceLE, Int.reduceLT, decide_true, decide_false, List.zipIdx_cons, List.zipIdx_nil, or_false, false_or, forall_eq_or_imp, forall_eq, ne_eq, reduceCtorEq, not_false_eq_true, Bool.false_eq_true, Bool.true_eq_false, Bool.not_true, Bool.not_false, notInt, numB, tabB, ↓vyB, ↓opY, roA, liveA, lvB, frz, frz1, true_or, Array.reduceGetElem?, upG, up, nth, lay, rcB, rnm, rnmL, wrB, pcB]
  refine codeY_range [2, 3] (L.filter β).length (fun i => .str ⟨⟨(L.filter β).getD i default⟩⟩) (fun _ => trivial) (by simp [roA, liveA, lookH, Chunk.live, Chunk.wr]) (by simp [lookH, frz1, Chunk.wr]) (fun ρ w X hk hH => ?_) (fun i g h' => g = .run 0 ∧ i = 0 ∧ h' = [.cells true [.str .empty], .cells true [.bool false], .cells false [.v (.func (.func f) #[] ⟨lb⟩)], .cells false [.v (.func (.func f2) #[] ⟨lb2⟩)]])
    (fun i g e h' => e = .ret ∧ g = .run 0 ∧ 0 < (L.filter β).length ∧ h' = [.cells true [.str ⟨⟨(L.filter β).getD 0 default⟩⟩], .cells true [.bool true], .cells false [.v (.func (.func f) #[] ⟨lb⟩)], .cells false [.v (.func (.func f2) #[] ⟨lb2⟩)]]) ?_ ?_ ?_ ?_
  · exact SeqT.keep (P := seqfPr Try.prog f lb L.length (fun i => .string ⟨⟨L.getD i default⟩⟩) (.func (.func f2) #[] ⟨lb2⟩) (fxT β) ⟨[.str ⟨⟨[]⟩⟩], _, rfl⟩) rfl (seqS_known2 _ _) (funS_known2 _ _) rfl rfl (by simp) (by simp) ρ w X hk (by assumption)
  · exact ⟨rfl, rfl, by simp [frz, frz1, inL]⟩
  · rintro i g h' hi ⟨rfl, rfl, rfl⟩
    refine codeY_of_vc (pl := pl98) tabOk follows_mixed (by kernel_rfl) ?_
    simp -implicitDefEqProofs (maxSteps := 1000000) (disch := omega) only [↓vcB, ↓gd, ↓opP, ↓qv, ↓ef, ↓bslS, ↓stS, ↓mkS, ↓rangeS, ↓nextS, ↓entryS, ↓delS, ↓mupS, ↓appS, ↓s2bS, ↓resS, evB, Sx.look, slot, ↓lkL, putS, putO, argsL, ↓reduceIte, ofV, of1, lookH, putH, List.length_cons, List.length_nil, List.length_append, List.replicate, List.append, List.cons_append, List.nil_append, List.append_assoc, List.map_cons, List.map_nil, convS, fldA, nthT, idxA, idxS, fldS, oslN, bnd, slS, unS, valI, lenS, lookS, takeC, psB, asRow, csB, Int.toNat_natCast, Int.le_refl, and_self, rdF, Ent.row, ldS, sz, szL, wrF, bldF, plT, bldS, srcS, nilS, nilEq, mapC, binH, binS2, structS, eqL, eqF, binS, arrS, isI, tupS, stor, storL, Value.oneCell', minS, maxS, capS, true_and, and_true, Nat.reduceAdd, Nat.reduceSub, Nat.reduceMul, Nat.reduceLT, Nat.reduceLeDiff, Nat.reduceEqDiff, Nat.reduceBEq, Int.reduceToNat, Int.reduceNeg, Nat.zero_add, Nat.add_zero, Nat.sub_self, Nat.sub_zero, Nat.zero_mul, Nat.mul_one, Nat.zero_le, if_true, if_false, reduceIte, stays, inL, same1, qn, ldN, convN, lenN, List.mem_cons, List.not_mem_nil, Option.map_some, Option.map_none, cond_true, cond_false, Sx.imp_true, Sx.imp_false, implies_true, Int.reduceEq, Int.reduceNe, Int.reduceLE, Int.reduceLT, decide_true, decide_false, List.zipIdx_cons, List.zipIdx_nil, or_false, false_or, forall_eq_or_imp, forall_eq, ne_eq, reduceCtorEq, not_false_eq_true, Bool.false_eq_true, Bool.true_eq_false, Bool.not_true, Bool.not_false, notInt, numB, tabB, ↓vyB, ↓opY, roA, liveA, lvB, frz, frz1, true_or, Array.reduceGetElem?, upG, up, nth, lay, rcB, rnm, rnmL, wrB, pcB]
    refine codeY_of_vc (pl := pl98) tabOk follows_mixed (by kernel_rfl) ?_
    simp -implicitDefEqProofs (maxSteps := 1000000) (disch := omega) only [↓vcB, ↓gd, ↓opP, ↓qv, ↓ef, ↓bslS, ↓stS, ↓mkS, ↓rangeS, ↓nextS, ↓entryS, ↓delS, ↓mupS, ↓appS, ↓s2bS, ↓resS, evB, Sx.look, slot, ↓lkL, putS, putO, argsL, ↓reduceIte, ofV, of1, lookH, putH, List.length_cons, List.length_nil, List.length_append, List.replicate, List.append, List.cons_append, List.nil_append, List.append_assoc, List.map_cons, List.map_nil, convS, fldA, nthT, idxA, idxS, fldS, oslN, bnd, slS, unS, valI, lenS, lookS, takeC, psB, asRow, csB, Int.toNat_natCast, Int.le_refl, and_self, rdF, Ent.row, ldS, sz, szL, wrF, bldF, plT, bldS, srcS, nilS, nilEq, mapC, binH, binS2, structS, eqL, eqF, binS, arrS, isI, tupS, stor, storL, Value.oneCell', minS, maxS, capS, true_and, and_true, Nat.reduceAdd, Nat.reduceSub, Nat.reduceMul, Nat.reduceLT, Nat.reduceLeDiff, Nat.reduceEqDiff, Nat.reduceBEq, Int.reduceToNat, Int.reduceNeg, Nat.zero_add, Nat.add_zero, Nat.sub_self, Nat.sub_zero, Nat.zero_mul, Nat.mul_one, Nat.zero_le, if_true, if_false, reduceIte, stays, inL, same1, qn, ldN, convN, lenN, List.mem_cons, List.not_mem_nil, Option.map_some, Option.map_none, cond_true, cond_false, Sx.imp_true, Sx.imp_false, implies_true, Int.reduceEq, Int.reduceNe, Int.reduceLE, Int.reduceLT, decide_true, decide_false, List.zipIdx_cons, List.zipIdx_nil, or_false, false_or, forall_eq_or_imp, forall_eq, ne_eq, reduceCtorEq, not_false_eq_true, Bool.false_eq_true, Bool.true_eq_false, Bool.not_true, Bool.not_false, notInt, numB, tabB, ↓vyB, ↓opY, roA, liveA, lvB, frz, frz1, true_or, Array.reduceGetElem?, upG, up, nth, lay, rcB, rnm, rnmL, wrB, pcB]
    exact ⟨rfl, intoY_refl ⟨⟨hi, rfl⟩, by simp [roA, liveA, lookH, frz, frz1, inL, Chunk.live, Chunk.wr]⟩⟩
  · rintro g h' ⟨rfl, h0, rfl⟩
    simp -implicitDefEqProofs (maxSteps := 1000000) (disch := omega) only [↓vcB, ↓gd, ↓opP, ↓qv, ↓ef, ↓bslS, ↓stS, ↓mkS, ↓rangeS, ↓nextS, ↓entryS, ↓delS, ↓mupS, ↓appS, ↓s2bS, ↓resS, evB, Sx.look, slot, ↓lkL, putS, putO, argsL, ↓reduceIte, ofV, of1, lookH, putH, List.length_cons, List.length_nil, List.length_append, List.replicate, List.append, List.cons_append, List.nil_append, List.append_assoc, List.map_cons, List.map_nil, convS, fldA, nthT, idxA, idxS, fldS, oslN, bnd, slS, unS, valI, lenS, lookS, takeC, psB, asRow, csB, Int.toNat_natCast, Int.le_refl, and_self, rdF, Ent.row, ldS, sz, szL, wrF, bldF, plT, bldS, srcS, nilS, nilEq, mapC, binH, binS2, structS, eqL, eqF, binS, arrS, isI, tupS, stor, storL, Value.oneCell', minS, maxS, capS, true_and, and_true, Nat.reduceAdd, Nat.reduceSub, Nat.reduceMul, Nat.reduceLT, Nat.reduceLeDiff, Nat.reduceEqDiff, Nat.reduceBEq, Int.reduceToNat, Int.reduceNeg, Nat.zero_add, Nat.add_zero, Nat.sub_self, Nat.sub_zero, Nat.zero_mul, Nat.mul_one, Nat.zero_le, if_true, if_false, reduceIte, stays, inL, same1, qn, ldN, convN, lenN, List.mem_cons, List.not_mem_nil, Option.map_some, Option.map_none, cond_true, cond_false, Sx.imp_true, Sx.imp_false, implies_true, Int.reduceEq, Int.reduceNe, Int.reduceLE, Int.reduceLT, decide_true, decide_false, List.zipIdx_cons, List.zipIdx_nil, or_false, false_or, forall_eq_or_imp, forall_eq, ne_eq, reduceCtorEq, not_false_eq_true, Bool.false_eq_true, Bool.true_eq_false, Bool.not_true, Bool.not_false, notInt, numB, tabB, ↓vyB, ↓opY, roA, liveA, lvB, frz, frz1, true_or, Array.reduceGetElem?, upG, up, nth, lay, rcB, rnm, rnmL, wrB, pcB, res98]
    have e1 : is = false := by rw [his, decide_eq_false]; omega
    have e2 : x = [] := by rw [hx, List.getD_eq_getElem?_getD, List.getElem?_eq_none (by omega)]; rfl
    rw [e1, e2]
    exact intoR_take [] rfl rfl trivial ⟨trivial, trivial, trivial⟩ ⟨rfl, rfl⟩
  · rintro i g e h' hi ⟨rfl, rfl, h0, rfl⟩
    simp -implicitDefEqProofs (maxSteps := 1000000) (disch := omega) only [↓vcB, ↓gd, ↓opP, ↓qv, ↓ef, ↓bslS, ↓stS, ↓mkS, ↓rangeS, ↓nextS, ↓entryS, ↓delS, ↓mupS, ↓appS, ↓s2bS, ↓resS, evB, Sx.look, slot, ↓lkL, putS, putO, argsL, ↓reduceIte, ofV, of1, lookH, putH, List.length_cons, List.length_nil, List.length_append, List.replicate, List.append, List.cons_append, List.nil_append, List.append_assoc, List.map_cons, List.map_nil, convS, fldA, nthT, idxA, idxS, fldS, oslN, bnd, slS, unS, valI, lenS, lookS, takeC, psB, asRow, csB, Int.toNat_natCast, Int.le_refl, and_self, rdF, Ent.row, ldS, sz, szL, wrF, bldF, plT, bldS, srcS, nilS, nilEq, mapC, binH, binS2, structS, eqL, eqF, binS, arrS, isI, tupS, stor, storL, Value.oneCell', minS, maxS, capS, true_and, and_true, Nat.reduceAdd, Nat.reduceSub, Nat.reduceMul, Nat.reduceLT, Nat.reduceLeDiff, Nat.reduceEqDiff, Nat.reduceBEq, Int.reduceToNat, Int.reduceNeg, Nat.zero_add, Nat.add_zero, Nat.sub_self, Nat.sub_zero, Nat.zero_mul, Nat.mul_one, Nat.zero_le, if_true, if_false, reduceIte, stays, inL, same1, qn, ldN, convN, lenN, List.mem_cons, List.not_mem_nil, Option.map_some, Option.map_none, cond_true, cond_false, Sx.imp_true, Sx.imp_false, implies_true, Int.reduceEq, Int.reduceNe, Int.reduceLE, Int.reduceLT, decide_true, decide_false, List.zipIdx_cons, List.zipIdx_nil, or_false, false_or, forall_eq_or_imp, forall_eq, ne_eq, reduceCtorEq, not_false_eq_true, Bool.false_eq_true, Bool.true_eq_false, Bool.not_true, Bool.not_false, notInt, numB, tabB, ↓vyB, ↓opY, roA, liveA, lvB, frz, frz1, true_or, Array.reduceGetElem?, upG, up, nth, lay, rcB, rnm, rnmL, wrB, pcB, res98]
    have e1 : is = true := by rw [his, decide_eq_true h0]
    rw [e1, hx]
    exact intoR_take [] rfl rfl trivial ⟨trivial, trivial, trivial⟩ ⟨rfl, rfl⟩
section
variable {P : Pr} (hP : P.p = Try.prog)
include hP
theorem c98 {qs : List Nat} {h : List Chunk} {sv sf : SV} {L : List (List UInt8)} {β : Str → Bool} (hs : SeqT P qs h sv L) (hf : FunS P qs h sf (fxT β)) (x : Str) (is : Bool) (hx : x = (L.filter β).getD 0 default) (his : is = decide (0 < (L.filter β).length)) (K : Tok → SV → List Chunk → Prop) (hK : K .mk (.tup [.str ⟨⟨x⟩⟩, .bool is]) h) : callP P 98 [sv, sf] h K := by
  refine callP_open (KL := fun _ v h' => v = .tup [.str ⟨⟨x⟩⟩, .bool is] ∧ h' = []) (fun C ρ w hk hMo => ?_) ?_
  · have hX := P.keep (Y := fun b => C.X b ∨ C.w0.heap.size ≤ b) hk hMo.keep fun b hb => hb
    have hq : ∀ k ∈ qs, Holds ρ w k (lookH h k) ∧ (Real ρ k (lookH h k) → (ρ k).b < w.heap.size) := fun k hkq => ⟨lookH_holds hMo k, fun hR => hMo.size k _ (lookH_some rfl (by intro e; rw [e] at hR; cases hR.1)) hR⟩
    obtain ⟨f, lb, B, hd, hg, _⟩ := hs ρ w _ hX hq
    obtain ⟨f2, lb2, B2, hd2, hs2, hp2, _⟩ := hf ρ w _ hX hq
    rw [hP] at hg hp2
    have hd' : ∀ ρ', denL ρ [sv, sf] = denL ρ' [.v (.func (.func f) #[] ⟨lb⟩), .v (.func (.func f2) #[] ⟨lb2⟩)] := fun ρ' => by simp only [denL, hd, hd2, den]
    exact ⟨seqfPr Try.prog f lb L.length (fun i => .string ⟨⟨L.getD i default⟩⟩) (.func (.func f2) #[] ⟨lb2⟩) (fxT β) ⟨[.str ⟨⟨[]⟩⟩], _, rfl⟩, [.v (.func (.func f) #[] ⟨lb⟩), .v (.func (.func f2) #[] ⟨lb2⟩)], hP.symm, ⟨⟨B, fun _ _ h => h, hg⟩, B2, fun _ _ h => h, hp2⟩, ⟨trivial, trivial, trivial⟩, hd', c98k f lb f2 lb2 L β x is hx his⟩
  · rintro v hl' ⟨rfl, rfl⟩
    exact ⟨by simp, by simpa [rnm, rnmL] using hK⟩
end
end Go.Proofs.Ytloinbebkhcndaa

set_option linter.all false
set_option maxRecDepth 40000
namespace Go.Proofs.Ytloinbebkhcndaa
open Go Go.Sx

theorem res95 : Try.f95.results.toList = [.tmp 4] := rfl
theorem res72 : Try.f72.results.toList = [.tmp 4] := rfl
theorem res71 : Try.f71.results.toList = [.tmp 4] := rfl
theorem res73 : Try.f73.results.toList = [.tmp 2] := rfl
theorem res99 : Try.f99.results.toList = [.tmp 4] := rfl
theorem res74 : Try.f74.results.toList = [.tmp 4, .tmp 5] := rfl
def pl95 : Nat → Plan := fun _ => .nil

def pl72 : Nat → Plan := fun _ => .nil

def pl71 : Nat → Plan := fun _ => .nil

def pl73 : Nat → Plan := fun _ => .nil

def pl99 : Nat → Plan
  | 1 => (.q 0 (.q 1 (.q 3 (.q 4 (.e1 2 [0] (.q 5 (.q 6 .nil)))))))
  | _ => .nil

def pl74 : Nat → Plan := fun _ => .nil

theorem SeqL.none {P : Pr} (hP : P.p = Try.prog) {qs : List Nat} {h : List Chunk} : SeqL P qs h (.fn (.func 101) [] []) [] := fun ρ w X hk hH => by
  rw [hP]
  exact ⟨101, [], fun _ => False, rfl, gives101 _ (fun b hb => hb.elim), fun b hb => hb.elim⟩
end Go.Proofs.Ytloinbebkhcndaa

set_option linter.all false
set_option maxRecDepth 40000
namespace Go.Proofs.Ytloinbebkhcndaa
open Go Go.Sx

theorem res119 : Try.f119.results.toList = [] := rfl
/-- maps.Keys: the keys, in some order. -/
theorem gives119 (n : Nat) (ks : Nat → List UInt8) (val : Nat → Value) (born : Nat → Nat) (clock : Nat) (hb : Bn n born clock) {ρ : Env} {B : Nat → Prop} {w0 : World} (hB : ∀ b, B b → b < w0.heap.size) (hH : ∀ k c, [Chunk.cells false [.mp 1], .rmap n (fun i => .str ⟨⟨ks i⟩⟩) (fun i => .v (val i)) born clock][k]? = some c → Holds ρ w0 k c ∧ (Real ρ k c → B (ρ k).b)) :
    GivesR Try.prog 119 (denL ρ [.ptr 0 0]) B (keyR n (fun j => den (fun _ => ⟨0, 0, 0, true⟩) (.str ⟨⟨ks j⟩⟩))) (keyF n) w0 := by
  refine givesR_of_codeY (P := Pr.of Try.prog) tabOk Try.func119 (by kernel_rfl) rfl res119 (h0 := [Chunk.cells false [.mp 1], .rmap n (fun i => .str ⟨⟨ks i⟩⟩) (fun i => .v (val i)) born clock]) (Nat.le_of_ble_eq_true rfl) ?_ (by simp [okL, ok]) (by simp [Chunk.wr]) (fun l => ?_) hB hH (fun _ _ _ => trivial) (fv := .nilFunc) (fx := fun _ => none) (nofx _)
  · exact ⟨by simp [slot, lkL, fixed, rg, renH, chB, lookH, eqvL, eqv, eqvF, rnmL, rnm, liveN, lvB, goodH, gdB, okL, ok, sz, szL, storL, stor, renT, okT, pcB], fun i hi => ⟨trivial, trivial⟩, trivial⟩
  refine codeY_of_vc (pl := np) tabOk follows_mixed (by kernel_rfl) ?_
  rw [Try.ntmps119]
  simp -implicitDefEqProofs (maxSteps := 1000000) (disch := omega) only [↓vcB, ↓gd, ↓opP, ↓qv, ↓ef, ↓bslS, ↓stS, ↓mkS, ↓rangeS, ↓nextS, ↓entryS, ↓delS, ↓mupS, ↓appS, ↓s2bS, ↓resS, evB, Sx.look, slot, ↓lkL, putS, putO, argsL, ↓reduceIte, ofV, of1, lookH, putH, List.length_cons, List.length_nil, List.length_append, List.replicate, List.append, List.cons_append, List.nil_append, List.append_assoc, List.map_cons, List.map_nil, convS, fldA, nthT, idxA, idxS, fldS, oslN, bnd, slS, unS, valI, lenS, lookS, takeC, psB, asRow, csB, Int.toNat_natCast, Int.le_refl, and_self, rdF, Ent.row, ldS, sz, szL, wrF, bldF, plT, bldS, srcS, nilS, nilEq, mapC, binH, binS2, structS, eqL, eqF, binS, arrS, isI, tupS, stor, storL, Value.oneCell', minS, maxS, capS, true_and, and_true, Nat.reduceAdd, Nat.reduceSub, Nat.reduceMul, Nat.reduceLT, Nat.reduceLeDiff, Nat.reduceEqDiff, Nat.reduceBEq, Int.reduceToNat, Int.reduceNeg, Nat.zero_add, Nat.add_zero, Nat.sub_self, Nat.sub_zero, Nat.zero_mul, Nat.mul_one, Nat.zero_le, if_true, if_false, reduceIte, stays, inL, same1, qn, ldN, convN, lenN, List.mem_cons, List.not_mem_nil, Option.map_some, Option.map_none, cond_true, cond_false, Sx.imp_true, Sx.imp_false, implies_true, Int.reduceEq, Int.reduceNe, Int.reduceLE, Int.reduceLT, decide_true, decide_false, List.zipIdx_cons, List.zipIdx_nil, or_false, false_or, forall_eq_or_imp, forall_eq, ne_eq, reduceCtorEq, not_false_eq_true, Bool.false_eq_true, Bool.true_eq_false, Bool.not_true, Bool.not_false, notInt, numB, tabB, ↓vyB, ↓opY, roA, liveA, lvB, frz, frz1, true_or, Array.reduceGetElem?, upG, up, nth, lay, rcB, rnm, rnmL, wrB, pcB]
  refine codeY_loop (pl := np) tabOk follows_mixed (by kernel_rfl) (fun x g t h => ∃ (p : List Nat) (j : Nat → Value), Pl n p ∧ p.length + x = n ∧ g = .run (cd n p) ∧ t = ⟨14, [(0, .v (.func (.yield l) #[] #[])), (5, .ptr 2 0)], j⟩ ∧ h = [.cells false [.mp 1], .rmap n (fun i => .str ⟨⟨ks i⟩⟩) (fun i => .v (val i)) born clock, .iter (.mp 1) clock (p.map born).reverse clock]) ?_ ?_
  · intro d
    refine into_mk [some 0, some 1, some 2] [(0, .v (.func (.yield l) #[] #[])), (5, .ptr 2 0)] [.cells false [.mp 1], .rmap n (fun i => .str ⟨⟨ks i⟩⟩) (fun i => .v (val i)) born clock, .iter (.mp 1) clock [] clock] ?_ ?_ ?_ ?_ ?_ ?_ ?_ fun j => ⟨rfl, n, [], j, Pl.nil n, by simp, rfl, rfl, rfl⟩
    · simp [slot, lkL, fixed, rg, renH, chEq, lookH, eqvL, eqv, eqvF, rnmL, rnm, liveN, Chunk.live, goodH, Chunk.good, okL, ok, sz, szL, storL, stor, renT, okT]
    · simp [slot, lkL, fixed, rg, renH, chEq, lookH, eqvL, eqv, eqvF, rnmL, rnm, liveN, Chunk.live, goodH, Chunk.good, okL, ok, sz, szL, storL, stor, renT, okT]
    · simp [slot, lkL, fixed, rg, renH, chB, lookH, eqvL, eqv, eqvF, rnmL, rnm, liveN, lvB, goodH, gdB, okL, ok, sz, szL, storL, stor, renT, okT, pcB]
    · simp [slot, lkL, fixed, rg, renH, chEq, lookH, eqvL, eqv, eqvF, rnmL, rnm, liveN, Chunk.live, goodH, Chunk.good, okL, ok, sz, szL, storL, stor, renT, okT]
    · simp [slot, lkL, fixed, rg, renH, chB, lookH, eqvL, eqv, eqvF, rnmL, rnm, liveN, lvB, goodH, gdB, okL, ok, sz, szL, storL, stor, renT, okT, pcB]
    · simp [slot, lkL, fixed, rg, renH, chEq, lookH, eqvL, eqv, eqvF, rnmL, rnm, liveN, Chunk.live, goodH, Chunk.good, okL, ok, sz, szL, storL, stor, renT, okT]
    · simp [slot, lkL, fixed, rg, renH, chEq, lookH, eqvL, eqv, eqvF, rnmL, rnm, liveN, Chunk.live, goodH, Chunk.good, okL, ok, sz, szL, storL, stor, renT, okT]
  · rintro x g t h ⟨p, j, hp, hx, rfl, rfl, rfl⟩
    simp -implicitDefEqProofs (maxSteps := 1000000) (disch := omega) only [↓vcB, ↓gd, ↓opP, ↓qv, ↓ef, ↓bslS, ↓stS, ↓mkS, ↓rangeS, ↓nextS, ↓entryS, ↓delS, ↓mupS, ↓appS, ↓s2bS, ↓resS, evB, Sx.look, slot, ↓lkL, putS, putO, argsL, ↓reduceIte, ofV, of1, lookH, putH, List.length_cons, List.length_nil, List.length_append, List.replicate, List.append, List.cons_append, List.nil_append, List.append_assoc, List.map_cons, List.map_nil, convS, fldA, nthT, idxA, idxS, fldS, oslN, bnd, slS, unS, valI, lenS, lookS, takeC, psB, asRow, csB, Int.toNat_natCast, Int.le_refl, and_self, rdF, Ent.row, ldS, sz, szL, wrF, bldF, plT, bldS, srcS, nilS, nilEq, mapC, binH, binS2, structS, eqL, eqF, binS, arrS, isI, tupS, stor, storL, Value.oneCell', minS, maxS, capS, true_and, and_true, Nat.reduceAdd, Nat.reduceSub, Nat.reduceMul, Nat.reduceLT, Nat.reduceLeDiff, Nat.reduceEqDiff, Nat.reduceBEq, Int.reduceToNat, Int.reduceNeg, Nat.zero_add, Nat.add_zero, Nat.sub_self, Nat.sub_zero, Nat.zero_mul, Nat.mul_one, Nat.zero_le, if_true, if_false, reduceIte, stays, inL, same1, qn, ldN, convN, lenN, List.mem_cons, List.not_mem_nil, Option.map_some, Option.map_none, cond_true, cond_false, Sx.imp_true, Sx.imp_false, implies_true, Int.reduceEq, Int.reduceNe, Int.reduceLE, Int.reduceLT, decide_true, decide_false, List.zipIdx_cons, List.zipIdx_nil, or_false, false_or, forall_eq_or_imp, forall_eq, ne_eq, reduceCtorEq, not_false_eq_true, Bool.false_eq_true, Bool.true_eq_false, Bool.not_true, Bool.not_false, notInt, numB, tabB, ↓vyB, ↓opY, roA, liveA, lvB, frz, frz1, true_or, Array.reduceGetElem?, upG, up, nth, lay, rcB, rnm, rnmL, wrB, pcB]
    refine ⟨⟨hb.1, Nat.le_refl _⟩, fun j hj hnj => ⟨j, _, hj, rfl, hb.2, cd n (j :: p), fun ρ => ⟨p, j, hp, hj, fun h => hnj (List.mem_reverse.2 (List.mem_map.2 ⟨j, h, rfl⟩)), rfl, rfl, rfl⟩, ?_, .inr ⟨_, trivial, rfl⟩⟩, fun hall => .inl ⟨_, ⟨p, hp, hp.full fun j hj => ?_, rfl⟩, rfl⟩⟩
    · have hjp : j ∉ p := fun h => hnj (List.mem_reverse.2 (List.mem_map.2 ⟨j, h, rfl⟩))
      have hle := (hp.cons hj hjp).le
      simp only [List.length_cons] at hle
      intro d
      refine into_mk [some 0, some 1, some 2] [(0, .v (.func (.yield l) #[] #[])), (5, .ptr 2 0)] [.cells false [.mp 1], .rmap n (fun i => .str ⟨⟨ks i⟩⟩) (fun i => .v (val i)) born clock, .iter (.mp 1) clock ((j :: p).map born).reverse clock] ?_ ?_ ?_ ?_ ?_ ?_ ?_ fun j' => ⟨rfl, x - 1, by omega, j :: p, j', hp.cons hj hjp, by simp only [List.length_cons]; omega, rfl, rfl, rfl⟩
      · simp [slot, lkL, fixed, rg, renH, chEq, lookH, eqvL, eqv, eqvF, rnmL, rnm, liveN, Chunk.live, goodH, Chunk.good, okL, ok, sz, szL, storL, stor, renT, okT]
      · simp [slot, lkL, fixed, rg, renH, chEq, lookH, eqvL, eqv, eqvF, rnmL, rnm, liveN, Chunk.live, goodH, Chunk.good, okL, ok, sz, szL, storL, stor, renT, okT]
      · simp [slot, lkL, fixed, rg, renH, chB, lookH, eqvL, eqv, eqvF, rnmL, rnm, liveN, lvB, goodH, gdB, okL, ok, sz, szL, storL, stor, renT, okT, pcB]
      · simp [slot, lkL, fixed, rg, renH, chEq, lookH, eqvL, eqv, eqvF, rnmL, rnm, liveN, Chunk.live, goodH, Chunk.good, okL, ok, sz, szL, storL, stor, renT, okT]
      · simp [slot, lkL, fixed, rg, renH, chB, lookH, eqvL, eqv, eqvF, rnmL, rnm, liveN, lvB, goodH, gdB, okL, ok, sz, szL, storL, stor, renT, okT, pcB]
      · simp [slot, lkL, fixed, rg, renH, chEq, lookH, eqvL, eqv, eqvF, rnmL, rnm, liveN, Chunk.live, goodH, Chunk.good, okL, ok, sz, szL, storL, stor, renT, okT]
      · simp [slot, lkL, fixed, rg, renH, chEq, lookH, eqvL, eqv, eqvF, rnmL, rnm, liveN, Chunk.live, goodH, Chunk.good, okL, ok, sz, szL, storL, stor, renT, okT]
    · have h1 := hall j hj
      rw [List.mem_reverse, List.mem_map] at h1
      obtain ⟨a, ha, he⟩ := h1
      rwa [hb.2 a j (hp.2 a ha) hj he] at ha

theorem res112 : Try.f112.results.toList = [.tmp 2] := rfl
theorem seqR119 {P : Pr} (hP : P.p = Try.prog) {qs : List Nat} {h : List Chunk} {k1 k2 : Nat} {w1 : Bool} {n : Nat} {ks : Nat → (List UInt8)} {val : Nat → SV} {born : Nat → Nat} {clock : Nat} (hb : Bn n born clock) (h1 : lookH h k1 = .cells w1 [.mp k2]) (h2 : lookH h k2 = .map n (fun i => .str ⟨⟨ks i⟩⟩) val born clock) (m1 : k1 ∈ qs) (m2 : k2 ∈ qs) :
    SeqR P qs h (.fn (.func 119) [] [.ptr k1 0]) (keyR n fun j => den (fun _ => ⟨0, 0, 0, true⟩) (.str ⟨⟨ks j⟩⟩)) (keyF n) := by
  intro ρ w X hk hH
  have q1 := hH k1 m1
  have q2 := hH k2 m2
  have r1 : Real ρ k1 (lookH h k1) := by rw [h1] at q1 ⊢; exact ⟨rfl, q1.1.1⟩
  have r2 : Real ρ k2 (lookH h k2) := by rw [h2] at q2 ⊢; exact ⟨rfl, q2.1.1⟩
  have hBs : ∀ b, (b = (ρ k1).b ∨ b = (ρ k2).b) → b < w.heap.size := by
    rintro b (rfl | rfl)
    · exact q1.2 r1
    · exact q2.2 r2
  rw [hP]
  refine ⟨119, denL ρ [.ptr k1 0], fun b => b = (ρ k1).b ∨ b = (ρ k2).b, rfl, ?_, ?_⟩
  · have e1 : denL ρ [.ptr k1 0] = denL (fun k => match k with | 0 => ρ k1 | _ => ρ k2) [.ptr 0 0] := rfl
    rw [e1]
    refine gives119 n ks (fun i => den ρ (val i)) born clock hb hBs ?_
    intro k c hc
    rcases k with _ | _ | k
    · cases hc
      rw [h1] at q1
      exact ⟨hold_cell q1.1 rfl rfl, fun _ => .inl rfl⟩
    · cases hc
      rw [h2] at q2
      exact ⟨q2.1, fun _ => .inr rfl⟩
    · simp at hc
  · rintro b (rfl | rfl)
    · exact .inr ⟨k1, m1, r1, rfl⟩
    · exact .inr ⟨k2, m2, r2, rfl⟩
theorem gives119n (ks : Nat → (List UInt8)) {ρ : Env} {B : Nat → Prop} {w0 : World} (hB : ∀ b, B b → b < w0.heap.size) (hH : ∀ k c, [Chunk.cells false [.v (.map none)]][k]? = some c → Holds ρ w0 k c ∧ (Real ρ k c → B (ρ k).b)) :
    GivesR Try.prog 119 (denL ρ [.ptr 0 0]) B (keyR 0 fun j => den (fun _ => ⟨0, 0, 0, true⟩) (.str ⟨⟨ks j⟩⟩)) (keyF 0) w0 := by
  refine givesR_of_codeY (P := Pr.of Try.prog) tabOk Try.func119 (by kernel_rfl) rfl res119 (h0 := [Chunk.cells false [.v (.map none)]]) (Nat.le_of_ble_eq_true rfl) (by simp [slot, lkL, fixed, rg, renH, chB, lookH, eqvL, eqv, eqvF, rnmL, rnm, liveN, lvB, goodH, gdB, okL, ok, sz, szL, storL, stor, renT, okT, pcB, Value.oneCell']) (by simp [okL, ok]) (by simp [Chunk.wr]) (fun l => ?_) hB hH (fun _ _ _ => trivial) (fv := .nilFunc) (fx := fun _ => none) (nofx _)
  refine codeY_of_vc (pl := np) tabOk follows_mixed (by kernel_rfl) ?_
  rw [Try.ntmps119]
  simp -implicitDefEqProofs (maxSteps := 1000000) (disch := omega) only [↓vcB, ↓gd, ↓opP, ↓qv, ↓ef, ↓bslS, ↓stS, ↓mkS, ↓rangeS, ↓nextS, ↓entryS, ↓delS, ↓mupS, ↓appS, ↓s2bS, ↓resS, evB, Sx.look, slot, ↓lkL, putS, putO, argsL, ↓reduceIte, ofV, of1, lookH, putH, List.length_cons, List.length_nil, List.length_append, List.replicate, List.append, List.cons_append, List.nil_append, List.append_assoc, List.map_cons, List.map_nil, convS, fldA, nthT, idxA, idxS, fldS, oslN, bnd, slS, unS, valI, lenS, lookS, takeC, psB, asRow, csB, Int.toNat_natCast, Int.le_refl, and_self, rdF, Ent.row, ldS, sz, szL, wrF, bldF, plT, bldS, srcS, nilS, nilEq, mapC, binH, binS2, structS, eqL, eqF, binS, arrS, isI, tupS, stor, storL, Value.oneCell', minS, maxS, capS, true_and, and_true, Nat.reduceAdd, Nat.reduceSub, Nat.reduceMul, Nat.reduceLT, Nat.reduceLeDiff, Nat.reduceEqDiff, Nat.reduceBEq, Int.reduceToNat, Int.reduceNeg, Nat.zero_add, Nat.add_zero, Nat.sub_self, Nat.sub_zero, Nat.zero_mul, Nat.mul_one, Nat.zero_le, if_true, if_false, reduceIte, stays, inL, same1, qn, ldN, convN, lenN, List.mem_cons, List.not_mem_nil, Option.map_some, Option.map_none, cond_true, cond_false, Sx.imp_true, Sx.imp_false, implies_true, Int.reduceEq, Int.reduceNe, Int.reduceLE, Int.reduceLT, decide_true, decide_false, List.zipIdx_cons, List.zipIdx_nil, or_false, false_or, forall_eq_or_imp, forall_eq, ne_eq, reduceCtorEq, not_false_eq_true, Bool.false_eq_true, Bool.true_eq_false, Bool.not_true, Bool.not_false, notInt, numB, tabB, ↓vyB, ↓opY, roA, liveA, lvB, frz, frz1, true_or, Array.reduceGetElem?, upG, up, nth, lay, rcB, rnm, rnmL, wrB, pcB]
  refine codeY_loop (pl := np) tabOk follows_mixed (by kernel_rfl) (fun x g t h => ∃ (j : Nat → Value), g = .run 0 ∧ t = ⟨14, [(0, .v (.func (.yield l) #[] #[])), (5, .ptr 1 0)], j⟩ ∧ h = [.cells false [.v (.map none)], .iter (.v (.map none)) 0 [] 0]) ?_ ?_
  · intro d
    refine into_mk [some 0, some 1] [(0, .v (.func (.yield l) #[] #[])), (5, .ptr 1 0)] [.cells false [.v (.map none)], .iter (.v (.map none)) 0 [] 0] ?_ ?_ ?_ ?_ ?_ ?_ ?_ fun j => ⟨rfl, 0, j, rfl, rfl, rfl⟩
    · simp [slot, lkL, fixed, rg, renH, chEq, lookH, eqvL, eqv, eqvF, rnmL, rnm, liveN, Chunk.live, goodH, Chunk.good, okL, ok, sz, szL, storL, stor, renT, okT]
    · simp [slot, lkL, fixed, rg, renH, chEq, lookH, eqvL, eqv, eqvF, rnmL, rnm, liveN, Chunk.live, goodH, Chunk.good, okL, ok, sz, szL, storL, stor, renT, okT]
    · simp [slot, lkL, fixed, rg, renH, chB, lookH, eqvL, eqv, eqvF, rnmL, rnm, liveN, lvB, goodH, gdB, okL, ok, sz, szL, storL, stor, renT, okT, pcB]
    · simp [slot, lkL, fixed, rg, renH, chEq, lookH, eqvL, eqv, eqvF, rnmL, rnm, liveN, Chunk.live, goodH, Chunk.good, okL, ok, sz, szL, storL, stor, renT, okT]
    · simp [slot, lkL, fixed, rg, renH, chB, lookH, eqvL, eqv, eqvF, rnmL, rnm, liveN, lvB, goodH, gdB, okL, ok, sz, szL, storL, stor, renT, okT, pcB, Value.oneCell']
    · simp [slot, lkL, fixed, rg, renH, chEq, lookH, eqvL, eqv, eqvF, rnmL, rnm, liveN, Chunk.live, goodH, Chunk.good, okL, ok, sz, szL, storL, stor, renT, okT]
    · simp [slot, lkL, fixed, rg, renH, chEq, lookH, eqvL, eqv, eqvF, rnmL, rnm, liveN, Chunk.live, goodH, Chunk.good, okL, ok, sz, szL, storL, stor, renT, okT]
  · rintro x g t h ⟨j, rfl, rfl, rfl⟩
    simp -implicitDefEqProofs (maxSteps := 1000000) (disch := omega) only [↓vcB, ↓gd, ↓opP, ↓qv, ↓ef, ↓bslS, ↓stS, ↓mkS, ↓rangeS, ↓nextS, ↓entryS, ↓delS, ↓mupS, ↓appS, ↓s2bS, ↓resS, evB, Sx.look, slot, ↓lkL, putS, putO, argsL, ↓reduceIte, ofV, of1, lookH, putH, List.length_cons, List.length_nil, List.length_append, List.replicate, List.append, List.cons_append, List.nil_append, List.append_assoc, List.map_cons, List.map_nil, convS, fldA, nthT, idxA, idxS, fldS, oslN, bnd, slS, unS, valI, lenS, lookS, takeC, psB, asRow, csB, Int.toNat_natCast, Int.le_refl, and_self, rdF, Ent.row, ldS, sz, szL, wrF, bldF, plT, bldS, srcS, nilS, nilEq, mapC, binH, binS2, structS, eqL, eqF, binS, arrS, isI, tupS, stor, storL, Value.oneCell', minS, maxS, capS, true_and, and_true, Nat.reduceAdd, Nat.reduceSub, Nat.reduceMul, Nat.reduceLT, Nat.reduceLeDiff, Nat.reduceEqDiff, Nat.reduceBEq, Int.reduceToNat, Int.reduceNeg, Nat.zero_add, Nat.add_zero, Nat.sub_self, Nat.sub_zero, Nat.zero_mul, Nat.mul_one, Nat.zero_le, if_true, if_false, reduceIte, stays, inL, same1, qn, ldN, convN, lenN, List.mem_cons, List.not_mem_nil, Option.map_some, Option.map_none, cond_true, cond_false, Sx.imp_true, Sx.imp_false, implies_true, Int.reduceEq, Int.reduceNe, Int.reduceLE, Int.reduceLT, decide_true, decide_false, List.zipIdx_cons, List.zipIdx_nil, or_false, false_or, forall_eq_or_imp, forall_eq, ne_eq, reduceCtorEq, not_false_eq_true, Bool.false_eq_true, Bool.true_eq_false, Bool.not_true, Bool.not_false, notInt, numB, tabB, ↓vyB, ↓opY, roA, liveA, lvB, frz, frz1, true_or, Array.reduceGetElem?, upG, up, nth, lay, rcB, rnm, rnmL, wrB, pcB]
    exact .inl ⟨_, ⟨[], Pl.nil 0, rfl, rfl⟩, rfl⟩
theorem seqR119n {P : Pr} (hP : P.p = Try.prog) {qs : List Nat} {h : List Chunk} {k1 : Nat} {w1 : Bool} {ks : Nat → (List UInt8)} (h1 : lookH h k1 = .cells w1 [.v (.map none)]) (m1 : k1 ∈ qs) : SeqR P qs h (.fn (.func 119) [] [.ptr k1 0]) (keyR 0 fun j => den (fun _ => ⟨0, 0, 0, true⟩) (.str ⟨⟨ks j⟩⟩)) (keyF 0) := by
  intro ρ w X hk hH
  obtain ⟨ρ', B', e1, e2, e3, e4, e5⟩ := caps1 (B := fun _ => False) hH h1 m1 (fun b hb => hb.elim) (fun b hb => hb.elim) (s1' := .v (.map none)) (fun _ => rfl)
  rw [hP]
  refine ⟨119, denL ρ [.ptr k1 0], B', rfl, ?_, e5⟩
  rw [← e1]
  exact gives119n ks e3 e4
theorem c112 (m : Nat) (h : List Chunk) (K : Tok → SV → List Chunk → Prop) (hK : K .mk (.fn (.func 119) [] [.ptr h.length 0]) (h ++ [.cells true [.mp m]])) : callP Try.prog 112 [.mp m] h K := by
  refine callP_of_code tabOk Try.func112 (by kernel_rfl) rfl (Nat.le_of_ble_eq_true rfl) (codeP_of_vc (pl := np) tabOk follows_mixed (by kernel_rfl) ?_)
  rw [Try.ntmps112]
  simp -implicitDefEqProofs (maxSteps := 1000000) (disch := omega) only [↓vcB, ↓gd, ↓opP, ↓qv, ↓ef, ↓bslS, ↓stS, ↓mkS, ↓rangeS, ↓nextS, ↓entryS, ↓delS, ↓mupS, ↓appS, ↓s2bS, ↓resS, evB, Sx.look, slot, ↓lkL, putS, putO, argsL, ↓reduceIte, ofV, of1, lookH, putH, List.length_cons, List.length_nil, List.length_append, List.replicate, List.append, List.cons_append, List.nil_append, List.append_assoc, List.map_cons, List.map_nil, convS, fldA, nthT, idxA, idxS, fldS, oslN, bnd, slS, unS, valI, lenS, lookS, takeC, psB, asRow, csB, Int.toNat_natCast, Int.le_refl, and_self, rdF, Ent.row, ldS, sz, szL, wrF, bldF, plT, bldS, srcS, nilS, nilEq, mapC, binH, binS2, structS, eqL, eqF, binS, arrS, isI, tupS, stor, storL, Value.oneCell', minS, maxS, capS, true_and, and_true, Nat.reduceAdd, Nat.reduceSub, Nat.reduceMul, Nat.reduceLT, Nat.reduceLeDiff, Nat.reduceEqDiff, Nat.reduceBEq, Int.reduceToNat, Int.reduceNeg, Nat.zero_add, Nat.add_zero, Nat.sub_self, Nat.sub_zero, Nat.zero_mul, Nat.mul_one, Nat.zero_le, if_true, if_false, reduceIte, stays, inL, same1, qn, ldN, convN, lenN, List.mem_cons, List.not_mem_nil, Option.map_some, Option.map_none, cond_true, cond_false, Sx.imp_true, Sx.imp_false, implies_true, Int.reduceEq, Int.reduceNe, Int.reduceLE, Int.reduceLT, decide_true, decide_false, List.zipIdx_cons, List.zipIdx_nil, or_false, false_or, forall_eq_or_imp, forall_eq, ne_eq, reduceCtorEq, not_false_eq_true, Bool.false_eq_true, Bool.true_eq_false, Bool.not_true, Bool.not_false, notInt, numB, tabB, Array.reduceGetElem?, upG, up, nth, lay, rcB, rnm, rnmL, wrB, pcB, res112, Value.oneCell']
  exact intoR_refl (by simp) hK
theorem c112n (h : List Chunk) (K : Tok → SV → List Chunk → Prop) (hK : K .mk (.fn (.func 119) [] [.ptr h.length 0]) (h ++ [.cells true [.v (.map none)]])) : callP Try.prog 112 [.v (.map none)] h K := by
  refine callP_of_code tabOk Try.func112 (by kernel_rfl) rfl (Nat.le_of_ble_eq_true rfl) (codeP_of_vc (pl := np) tabOk follows_mixed (by kernel_rfl) ?_)
  rw [Try.ntmps112]
  simp -implicitDefEqProofs (maxSteps := 1000000) (disch := omega) only [↓vcB, ↓gd, ↓opP, ↓qv, ↓ef, ↓bslS, ↓stS, ↓mkS, ↓rangeS, ↓nextS, ↓entryS, ↓delS, ↓mupS, ↓appS, ↓s2bS, ↓resS, evB, Sx.look, slot, ↓lkL, putS, putO, argsL, ↓reduceIte, ofV, of1, lookH, putH, List.length_cons, List.length_nil, List.length_append, List.replicate, List.append, List.cons_append, List.nil_append, List.append_assoc, List.map_cons, List.map_nil, convS, fldA, nthT, idxA, idxS, fldS, oslN, bnd, slS, unS, valI, lenS, lookS, takeC, psB, asRow, csB, Int.toNat_natCast, Int.le_refl, and_self, rdF, Ent.row, ldS, sz, szL, wrF, bldF, plT, bldS, srcS, nilS, nilEq, mapC, binH, binS2, structS, eqL, eqF, binS, arrS, isI, tupS, stor, storL, Value.oneCell', minS, maxS, capS, true_and, and_true, Nat.reduceAdd, Nat.reduceSub, Nat.reduceMul, Nat.reduceLT, Nat.reduceLeDiff, Nat.reduceEqDiff, Nat.reduceBEq, Int.reduceToNat, Int.reduceNeg, Nat.zero_add, Nat.add_zero, Nat.sub_self, Nat.sub_zero, Nat.zero_mul, Nat.mul_one, Nat.zero_le, if_true, if_false, reduceIte, stays, inL, same1, qn, ldN, convN, lenN, List.mem_cons, List.not_mem_nil, Option.map_some, Option.map_none, cond_true, cond_false, Sx.imp_true, Sx.imp_false, implies_true, Int.reduceEq, Int.reduceNe, Int.reduceLE, Int.reduceLT, decide_true, decide_false, List.zipIdx_cons, List.zipIdx_nil, or_false, false_or, forall_eq_or_imp, forall_eq, ne_eq, reduceCtorEq, not_false_eq_true, Bool.false_eq_true, Bool.true_eq_false, Bool.not_true, Bool.not_false, notInt, numB, tabB, Array.reduceGetElem?, upG, up, nth, lay, rcB, rnm, rnmL, wrB, pcB, res112, Value.oneCell']
  exact intoR_refl (by simp) hK

theorem res97 : Try.f97.results.toList = [.tmp 2] := rfl
theorem c97m (nv : Int) (L : List (List UInt8)) (hn : L.length ≤ 1000) (S : List (List UInt8)) (hS : S = L.mergeSort fun x y => decide (x ≤ y)) (h : List Chunk) (p m : Nat) (w : Bool) (val : Nat → SV) (born : Nat → Nat) (clock : Nat) (hb : Bn L.length born clock) (hp : lookH h p = .cells w [.int .i64 nv, .mp m]) (hm : lookH h m = .map L.length (fun i => .str ⟨⟨L.getD i default⟩⟩) val born clock) (K : Tok → SV → List Chunk → Prop)
    (hK : K .mk (.fn (.func 107) [] [.ptr (h.length + 2) 0]) (h ++ [.cells true [.mp m], .row true S.length 1 fun i => .str ⟨⟨S.getD i default⟩⟩, .cells true [.osl (h.length + 1) 0 0 1 S.length]])) : callP Try.prog 97 [.ptr p 1] h K := by
  have hm1 : lookH (h ++ [.cells true [.mp m]]) m = .map L.length (fun i => .str ⟨⟨L.getD i default⟩⟩) val born clock := lookH_old _ _ _ hm (by simp)
  have hk1 : lookH (h ++ [.cells true [.mp m]]) h.length = .cells true [.mp m] := lookH_app0 _ _
  refine callP_of_code tabOk Try.func97 (by kernel_rfl) rfl (Nat.le_of_ble_eq_true rfl) (codeP_of_vc (pl := np) tabOk follows_mixed (by kernel_rfl) ?_)
  rw [Try.ntmps97]
  simp -implicitDefEqProofs (maxSteps := 1000000) (disch := omega) only [↓vcB, ↓gd, ↓opP, ↓qv, ↓ef, ↓bslS, ↓stS, ↓mkS, ↓rangeS, ↓nextS, ↓entryS, ↓delS, ↓mupS, ↓appS, ↓s2bS, ↓resS, evB, Sx.look, slot, ↓lkL, putS, putO, argsL, ↓reduceIte, ofV, of1, lookH, putH, List.length_cons, List.length_nil, List.length_append, List.replicate, List.append, List.cons_append, List.nil_append, List.append_assoc, List.map_cons, List.map_nil, convS, fldA, nthT, idxA, idxS, fldS, oslN, bnd, slS, unS, valI, lenS, lookS, takeC, psB, asRow, csB, Int.toNat_natCast, Int.le_refl, and_self, rdF, Ent.row, ldS, sz, szL, wrF, bldF, plT, bldS, srcS, nilS, nilEq, mapC, binH, binS2, structS, eqL, eqF, binS, arrS, isI, tupS, stor, storL, Value.oneCell', minS, maxS, capS, true_and, and_true, Nat.reduceAdd, Nat.reduceSub, Nat.reduceMul, Nat.reduceLT, Nat.reduceLeDiff, Nat.reduceEqDiff, Nat.reduceBEq, Int.reduceToNat, Int.reduceNeg, Nat.zero_add, Nat.add_zero, Nat.sub_self, Nat.sub_zero, Nat.zero_mul, Nat.mul_one, Nat.zero_le, if_true, if_false, reduceIte, stays, inL, same1, qn, ldN, convN, lenN, List.mem_cons, List.not_mem_nil, Option.map_some, Option.map_none, cond_true, cond_false, Sx.imp_true, Sx.imp_false, implies_true, Int.reduceEq, Int.reduceNe, Int.reduceLE, Int.reduceLT, decide_true, decide_false, List.zipIdx_cons, List.zipIdx_nil, or_false, false_or, forall_eq_or_imp, forall_eq, ne_eq, reduceCtorEq, not_false_eq_true, Bool.false_eq_true, Bool.true_eq_false, Bool.not_true, Bool.not_false, notInt, numB, tabB, Array.reduceGetElem?, upG, up, nth, lay, rcB, rnm, rnmL, wrB, pcB, Option.isNone, res97, hp, hm]
  refine c112 m _ _ ?_
  simp -implicitDefEqProofs (maxSteps := 1000000) (disch := omega) only [↓vcB, ↓gd, ↓opP, ↓qv, ↓ef, ↓bslS, ↓stS, ↓mkS, ↓rangeS, ↓nextS, ↓entryS, ↓delS, ↓mupS, ↓appS, ↓s2bS, ↓resS, evB, Sx.look, slot, ↓lkL, putS, putO, argsL, ↓reduceIte, ofV, of1, lookH, putH, List.length_cons, List.length_nil, List.length_append, List.replicate, List.append, List.cons_append, List.nil_append, List.append_assoc, List.map_cons, List.map_nil, convS, fldA, nthT, idxA, idxS, fldS, oslN, bnd, slS, unS, valI, lenS, lookS, takeC, psB, asRow, csB, Int.toNat_natCast, Int.le_refl, and_self, rdF, Ent.row, ldS, sz, szL, wrF, bldF, plT, bldS, srcS, nilS, nilEq, mapC, binH, binS2, structS, eqL, eqF, binS, arrS, isI, tupS, stor, storL, Value.oneCell', minS, maxS, capS, true_and, and_true, Nat.reduceAdd, Nat.reduceSub, Nat.reduceMul, Nat.reduceLT, Nat.reduceLeDiff, Nat.reduceEqDiff, Nat.reduceBEq, Int.reduceToNat, Int.reduceNeg, Nat.zero_add, Nat.add_zero, Nat.sub_self, Nat.sub_zero, Nat.zero_mul, Nat.mul_one, Nat.zero_le, if_true, if_false, reduceIte, stays, inL, same1, qn, ldN, convN, lenN, List.mem_cons, List.not_mem_nil, Option.map_some, Option.map_none, cond_true, cond_false, Sx.imp_true, Sx.imp_false, implies_true, Int.reduceEq, Int.reduceNe, Int.reduceLE, Int.reduceLT, decide_true, decide_false, List.zipIdx_cons, List.zipIdx_nil, or_false, false_or, forall_eq_or_imp, forall_eq, ne_eq, reduceCtorEq, not_false_eq_true, Bool.false_eq_true, Bool.true_eq_false, Bool.not_true, Bool.not_false, notInt, numB, tabB, Array.reduceGetElem?, upG, up, nth, lay, rcB, rnm, rnmL, wrB, pcB, Option.isNone, res97, hp, hm]
  refine c91 (n := L.length) (ks := fun i => L.getD i default) hn (seqR119 rfl (qs := [h.length, m]) hb hk1 hm1 (by simp) (by simp)) S (by rw [map_getD]; exact hS) _ ?_
  simp -implicitDefEqProofs (maxSteps := 1000000) (disch := omega) only [↓vcB, ↓gd, ↓opP, ↓qv, ↓ef, ↓bslS, ↓stS, ↓mkS, ↓rangeS, ↓nextS, ↓entryS, ↓delS, ↓mupS, ↓appS, ↓s2bS, ↓resS, evB, Sx.look, slot, ↓lkL, putS, putO, argsL, ↓reduceIte, ofV, of1, lookH, putH, List.length_cons, List.length_nil, List.length_append, List.replicate, List.append, List.cons_append, List.nil_append, List.append_assoc, List.map_cons, List.map_nil, convS, fldA, nthT, idxA, idxS, fldS, oslN, bnd, slS, unS, valI, lenS, lookS, takeC, psB, asRow, csB, Int.toNat_natCast, Int.le_refl, and_self, rdF, Ent.row, ldS, sz, szL, wrF, bldF, plT, bldS, srcS, nilS, nilEq, mapC, binH, binS2, structS, eqL, eqF, binS, arrS, isI, tupS, stor, storL, Value.oneCell', minS, maxS, capS, true_and, and_true, Nat.reduceAdd, Nat.reduceSub, Nat.reduceMul, Nat.reduceLT, Nat.reduceLeDiff, Nat.reduceEqDiff, Nat.reduceBEq, Int.reduceToNat, Int.reduceNeg, Nat.zero_add, Nat.add_zero, Nat.sub_self, Nat.sub_zero, Nat.zero_mul, Nat.mul_one, Nat.zero_le, if_true, if_false, reduceIte, stays, inL, same1, qn, ldN, convN, lenN, List.mem_cons, List.not_mem_nil, Option.map_some, Option.map_none, cond_true, cond_false, Sx.imp_true, Sx.imp_false, implies_true, Int.reduceEq, Int.reduceNe, Int.reduceLE, Int.reduceLT, decide_true, decide_false, List.zipIdx_cons, List.zipIdx_nil, or_false, false_or, forall_eq_or_imp, forall_eq, ne_eq, reduceCtorEq, not_false_eq_true, Bool.false_eq_true, Bool.true_eq_false, Bool.not_true, Bool.not_false, notInt, numB, tabB, Array.reduceGetElem?, upG, up, nth, lay, rcB, rnm, rnmL, wrB, pcB, Option.isNone, res97, hp, hm]
  refine c90 _ _ S.length _ ?_
  simp -implicitDefEqProofs (maxSteps := 1000000) (disch := omega) only [↓vcB, ↓gd, ↓opP, ↓qv, ↓ef, ↓bslS, ↓stS, ↓mkS, ↓rangeS, ↓nextS, ↓entryS, ↓delS, ↓mupS, ↓appS, ↓s2bS, ↓resS, evB, Sx.look, slot, ↓lkL, putS, putO, argsL, ↓reduceIte, ofV, of1, lookH, putH, List.length_cons, List.length_nil, List.length_append, List.replicate, List.append, List.cons_append, List.nil_append, List.append_assoc, List.map_cons, List.map_nil, convS, fldA, nthT, idxA, idxS, fldS, oslN, bnd, slS, unS, valI, lenS, lookS, takeC, psB, asRow, csB, Int.toNat_natCast, Int.le_refl, and_self, rdF, Ent.row, ldS, sz, szL, wrF, bldF, plT, bldS, srcS, nilS, nilEq, mapC, binH, binS2, structS, eqL, eqF, binS, arrS, isI, tupS, stor, storL, Value.oneCell', minS, maxS, capS, true_and, and_true, Nat.reduceAdd, Nat.reduceSub, Nat.reduceMul, Nat.reduceLT, Nat.reduceLeDiff, Nat.reduceEqDiff, Nat.reduceBEq, Int.reduceToNat, Int.reduceNeg, Nat.zero_add, Nat.add_zero, Nat.sub_self, Nat.sub_zero, Nat.zero_mul, Nat.mul_one, Nat.zero_le, if_true, if_false, reduceIte, stays, inL, same1, qn, ldN, convN, lenN, List.mem_cons, List.not_mem_nil, Option.map_some, Option.map_none, cond_true, cond_false, Sx.imp_true, Sx.imp_false, implies_true, Int.reduceEq, Int.reduceNe, Int.reduceLE, Int.reduceLT, decide_true, decide_false, List.zipIdx_cons, List.zipIdx_nil, or_false, false_or, forall_eq_or_imp, forall_eq, ne_eq, reduceCtorEq, not_false_eq_true, Bool.false_eq_true, Bool.true_eq_false, Bool.not_true, Bool.not_false, notInt, numB, tabB, Array.reduceGetElem?, upG, up, nth, lay, rcB, rnm, rnmL, wrB, pcB, Option.isNone, res97, hp, hm]
  exact intoR_refl (by simp) hK
theorem c97n (nv : Int) (h : List Chunk) (p : Nat) (w : Bool) (hp : lookH h p = .cells w [.int .i64 nv, .v (.map none)]) (K : Tok → SV → List Chunk → Prop)
    (hK : K .mk (.fn (.func 107) [] [.ptr (h.length + 2) 0]) (h ++ [.cells true [.v (.map none)], .row true ([] : List (List UInt8)).length 1 fun i => .str ⟨⟨([] : List (List UInt8)).getD i default⟩⟩, .cells true [.osl (h.length + 1) 0 0 1 ([] : List (List UInt8)).length]])) : callP Try.prog 97 [.ptr p 1] h K := by
  have hk1 : lookH (h ++ [.cells true [.v (.map none)]]) h.length = .cells true [.v (.map none)] := lookH_app0 _ _
  refine callP_of_code tabOk Try.func97 (by kernel_rfl) rfl (Nat.le_of_ble_eq_true rfl) (codeP_of_vc (pl := np) tabOk follows_mixed (by kernel_rfl) ?_)
  rw [Try.ntmps97]
  simp -implicitDefEqProofs (maxSteps := 1000000) (disch := omega) only [↓vcB, ↓gd, ↓opP, ↓qv, ↓ef, ↓bslS, ↓stS, ↓mkS, ↓rangeS, ↓nextS, ↓entryS, ↓delS, ↓mupS, ↓appS, ↓s2bS, ↓resS, evB, Sx.look, slot, ↓lkL, putS, putO, argsL, ↓reduceIte, ofV, of1, lookH, putH, List.length_cons, List.length_nil, List.length_append, List.replicate, List.append, List.cons_append, List.nil_append, List.append_assoc, List.map_cons, List.map_nil, convS, fldA, nthT, idxA, idxS, fldS, oslN, bnd, slS, unS, valI, lenS, lookS, takeC, psB, asRow, csB, Int.toNat_natCast, Int.le_refl, and_self, rdF, Ent.row, ldS, sz, szL, wrF, bldF, plT, bldS, srcS, nilS, nilEq, mapC, binH, binS2, structS, eqL, eqF, binS, arrS, isI, tupS, stor, storL, Value.oneCell', minS, maxS, capS, true_and, and_true, Nat.reduceAdd, Nat.reduceSub, Nat.reduceMul, Nat.reduceLT, Nat.reduceLeDiff, Nat.reduceEqDiff, Nat.reduceBEq, Int.reduceToNat, Int.reduceNeg, Nat.zero_add, Nat.add_zero, Nat.sub_self, Nat.sub_zero, Nat.zero_mul, Nat.mul_one, Nat.zero_le, if_true, if_false, reduceIte, stays, inL, same1, qn, ldN, convN, lenN, List.mem_cons, List.not_mem_nil, Option.map_some, Option.map_none, cond_true, cond_false, Sx.imp_true, Sx.imp_false, implies_true, Int.reduceEq, Int.reduceNe, Int.reduceLE, Int.reduceLT, decide_true, decide_false, List.zipIdx_cons, List.zipIdx_nil, or_false, false_or, forall_eq_or_imp, forall_eq, ne_eq, reduceCtorEq, not_false_eq_true, Bool.false_eq_true, Bool.true_eq_false, Bool.not_true, Bool.not_false, notInt, numB, tabB, Array.reduceGetElem?, upG, up, nth, lay, rcB, rnm, rnmL, wrB, pcB, Option.isNone, res97, hp]
  refine c112n _ _ ?_
  simp -implicitDefEqProofs (maxSteps := 1000000) (disch := omega) only [↓vcB, ↓gd, ↓opP, ↓qv, ↓ef, ↓bslS, ↓stS, ↓mkS, ↓rangeS, ↓nextS, ↓entryS, ↓delS, ↓mupS, ↓appS, ↓s2bS, ↓resS, evB, Sx.look, slot, ↓lkL, putS, putO, argsL, ↓reduceIte, ofV, of1, lookH, putH, List.length_cons, List.length_nil, List.length_append, List.replicate, List.append, List.cons_append, List.nil_append, List.append_assoc, List.map_cons, List.map_nil, convS, fldA, nthT, idxA, idxS, fldS, oslN, bnd, slS, unS, valI, lenS, lookS, takeC, psB, asRow, csB, Int.toNat_natCast, Int.le_refl, and_self, rdF, Ent.row, ldS, sz, szL, wrF, bldF, plT, bldS, srcS, nilS, nilEq, mapC, binH, binS2, structS, eqL, eqF, binS, arrS, isI, tupS, stor, storL, Value.oneCell', minS, maxS, capS, true_and, and_true, Nat.reduceAdd, Nat.reduceSub, Nat.reduceMul, Nat.reduceLT, Nat.reduceLeDiff, Nat.reduceEqDiff, Nat.reduceBEq, Int.reduceToNat, Int.reduceNeg, Nat.zero_add, Nat.add_zero, Nat.sub_self, Nat.sub_zero, Nat.zero_mul, Nat.mul_one, Nat.zero_le, if_true, if_false, reduceIte, stays, inL, same1, qn, ldN, convN, lenN, List.mem_cons, List.not_mem_nil, Option.map_some, Option.map_none, cond_true, cond_false, Sx.imp_true, Sx.imp_false, implies_true, Int.reduceEq, Int.reduceNe, Int.reduceLE, Int.reduceLT, decide_true, decide_false, List.zipIdx_cons, List.zipIdx_nil, or_false, false_or, forall_eq_or_imp, forall_eq, ne_eq, reduceCtorEq, not_false_eq_true, Bool.false_eq_true, Bool.true_eq_false, Bool.not_true, Bool.not_false, notInt, numB, tabB, Array.reduceGetElem?, upG, up, nth, lay, rcB, rnm, rnmL, wrB, pcB, Option.isNone, res97, hp]
  refine c91 (n := 0) (ks := fun _ => default) (by omega) (seqR119n rfl (qs := [h.length]) hk1 (by simp)) ([] : List (List UInt8)) (by simp) _ ?_
  simp -implicitDefEqProofs (maxSteps := 1000000) (disch := omega) only [↓vcB, ↓gd, ↓opP, ↓qv, ↓ef, ↓bslS, ↓stS, ↓mkS, ↓rangeS, ↓nextS, ↓entryS, ↓delS, ↓mupS, ↓appS, ↓s2bS, ↓resS, evB, Sx.look, slot, ↓lkL, putS, putO, argsL, ↓reduceIte, ofV, of1, lookH, putH, List.length_cons, List.length_nil, List.length_append, List.replicate, List.append, List.cons_append, List.nil_append, List.append_assoc, List.map_cons, List.map_nil, convS, fldA, nthT, idxA, idxS, fldS, oslN, bnd, slS, unS, valI, lenS, lookS, takeC, psB, asRow, csB, Int.toNat_natCast, Int.le_refl, and_self, rdF, Ent.row, ldS, sz, szL, wrF, bldF, plT, bldS, srcS, nilS, nilEq, mapC, binH, binS2, structS, eqL, eqF, binS, arrS, isI, tupS, stor, storL, Value.oneCell', minS, maxS, capS, true_and, and_true, Nat.reduceAdd, Nat.reduceSub, Nat.reduceMul, Nat.reduceLT, Nat.reduceLeDiff, Nat.reduceEqDiff, Nat.reduceBEq, Int.reduceToNat, Int.reduceNeg, Nat.zero_add, Nat.add_zero, Nat.sub_self, Nat.sub_zero, Nat.zero_mul, Nat.mul_one, Nat.zero_le, if_true, if_false, reduceIte, stays, inL, same1, qn, ldN, convN, lenN, List.mem_cons, List.not_mem_nil, Option.map_some, Option.map_none, cond_true, cond_false, Sx.imp_true, Sx.imp_false, implies_true, Int.reduceEq, Int.reduceNe, Int.reduceLE, Int.reduceLT, decide_true, decide_false, List.zipIdx_cons, List.zipIdx_nil, or_false, false_or, forall_eq_or_imp, forall_eq, ne_eq, reduceCtorEq, not_false_eq_true, Bool.false_eq_true, Bool.true_eq_false, Bool.not_true, Bool.not_false, notInt, numB, tabB, Array.reduceGetElem?, upG, up, nth, lay, rcB, rnm, rnmL, wrB, pcB, Option.isNone, res97, hp]
  refine c90 _ _ 0 _ ?_
  simp -implicitDefEqProofs (maxSteps := 1000000) (disch := omega) only [↓vcB, ↓gd, ↓opP, ↓qv, ↓ef, ↓bslS, ↓stS, ↓mkS, ↓rangeS, ↓nextS, ↓entryS, ↓delS, ↓mupS, ↓appS, ↓s2bS, ↓resS, evB, Sx.look, slot, ↓lkL, putS, putO, argsL, ↓reduceIte, ofV, of1, lookH, putH, List.length_cons, List.length_nil, List.length_append, List.replicate, List.append, List.cons_append, List.nil_append, List.append_assoc, List.map_cons, List.map_nil, convS, fldA, nthT, idxA, idxS, fldS, oslN, bnd, slS, unS, valI, lenS, lookS, takeC, psB, asRow, csB, Int.toNat_natCast, Int.le_refl, and_self, rdF, Ent.row, ldS, sz, szL, wrF, bldF, plT, bldS, srcS, nilS, nilEq, mapC, binH, binS2, structS, eqL, eqF, binS, arrS, isI, tupS, stor, storL, Value.oneCell', minS, maxS, capS, true_and, and_true, Nat.reduceAdd, Nat.reduceSub, Nat.reduceMul, Nat.reduceLT, Nat.reduceLeDiff, Nat.reduceEqDiff, Nat.reduceBEq, Int.reduceToNat, Int.reduceNeg, Nat.zero_add, Nat.add_zero, Nat.sub_self, Nat.sub_zero, Nat.zero_mul, Nat.mul_one, Nat.zero_le, if_true, if_false, reduceIte, stays, inL, same1, qn, ldN, convN, lenN, List.mem_cons, List.not_mem_nil, Option.map_some, Option.map_none, cond_true, cond_false, Sx.imp_true, Sx.imp_false, implies_true, Int.reduceEq, Int.reduceNe, Int.reduceLE, Int.reduceLT, decide_true, decide_false, List.zipIdx_cons, List.zipIdx_nil, or_false, false_or, forall_eq_or_imp, forall_eq, ne_eq, reduceCtorEq, not_false_eq_true, Bool.false_eq_true, Bool.true_eq_false, Bool.not_true, Bool.not_false, notInt, numB, tabB, Array.reduceGetElem?, upG, up, nth, lay, rcB, rnm, rnmL, wrB, pcB, Option.isNone, res97, hp]
  exact intoR_refl (by simp) hK
end Go.Proofs.Ytloinbebkhcndaa

set_option linter.all false
set_option maxRecDepth 40000
namespace Go.Proofs.Ytloinbebkhcndaa
open Go Go.Sx

/-- Votes: who voted for each key, in the order in which they came. -/
abbrev VT := List (Str × List Int)
def ks (T : VT) : List Str := T.map (·.1)
def vs (T : VT) (i : Nat) : List Int := (T.getD i default).2
theorem ks_len (T : VT) : (ks T).length = T.length := List.length_map _
/-- Where a table of votes lies. -/
structure VW where
  m : Nat
  s : Nat → Nat
  t : Nat → Nat
  born : Nat → Nat
  clock : Nat
  bs : Nat → Nat → Nat
  cs : Nat → Nat
def mpR (ro : Bool) (n : Nat) (k v : Nat → SV) (b : Nat → Nat) (c : Nat) : Chunk := if ro then .rmap n k v b c else .map n k v b c
theorem mpR_ne (ro : Bool) (n : Nat) (k v : Nat → SV) (b : Nat → Nat) (c : Nat) : mpR ro n k v b c ≠ .none := by cases ro <;> simp [mpR]
structure VotesW (ro : Bool) (h : List Chunk) (p : Nat) (nv : Int) (T : VT) (W : VW) : Prop where
  nil : T = [] → lookH h p = .cells (!ro) [.int .i64 nv, .v (.map none)]
  top : T ≠ [] → lookH h p = .cells (!ro) [.int .i64 nv, .mp W.m]
  tab : T ≠ [] → lookH h W.m = mpR ro (ks T).length (fun i => sS ((ks T).getD i default)) (fun i => .ptr (W.s i) 0) W.born W.clock
  bn : Bn T.length W.born W.clock
  nd : (ks T).Nodup
  set : ∀ i, i < T.length → lookH h (W.s i) = .cells (!ro) [.mp (W.t i)]
  mp : ∀ i, i < T.length → lookH h (W.t i) = mpR ro (vs T i).length (fun j => .int .i64 ((vs T i).getD j default)) (fun _ => .int .i64 1) (W.bs i) (W.cs i)
  bns : ∀ i, i < T.length → Bn (vs T i).length (W.bs i) (W.cs i)
  ne : ∀ i, i < T.length → vs T i ≠ []
  nds : ∀ i, i < T.length → (vs T i).Nodup
  inj : ∀ i j, i < T.length → j < T.length → W.t i = W.t j → i = j
/-- The names that votes have. -/
def foot (T : VT) (W : VW) (p k : Nat) : Prop := k = p ∨ (T ≠ [] ∧ k = W.m) ∨ ∃ i, i < T.length ∧ (k = W.s i ∨ k = W.t i)
theorem VotesW.pne {ro : Bool} {h : List Chunk} {p : Nat} {nv : Int} {T : VT} {W : VW} (hv : VotesW ro h p nv T W) : ∃ fs, lookH h p = .cells (!ro) fs ∧ fs.length = 2 := by
  by_cases e : T = []
  · exact ⟨_, hv.nil e, rfl⟩
  · exact ⟨_, hv.top e, rfl⟩
theorem foot_live {ro : Bool} {h : List Chunk} {p : Nat} {nv : Int} {T : VT} {W : VW} (hv : VotesW ro h p nv T W) {k : Nat} (hk : foot T W p k) : lookH h k ≠ .none := by
  rcases hk with rfl | ⟨h1, rfl⟩ | ⟨i, hi, rfl | rfl⟩
  · obtain ⟨fs, e, _⟩ := hv.pne
    rw [e]; simp
  · rw [hv.tab h1]; exact mpR_ne _ _ _ _ _ _
  · rw [hv.set i hi]; simp
  · rw [hv.mp i hi]; exact mpR_ne _ _ _ _ _ _
theorem foot_lt {ro : Bool} {h : List Chunk} {p : Nat} {nv : Int} {T : VT} {W : VW} (hv : VotesW ro h p nv T W) {k : Nat} (hk : foot T W p k) : k < h.length := lookH_lt rfl (foot_live hv hk)
/-- Votes stay where other things change. -/
theorem VotesW.same {ro : Bool} {h h' : List Chunk} {p : Nat} {nv : Int} {T : VT} {W : VW} (hv : VotesW ro h p nv T W) (hs : ∀ k, foot T W p k → lookH h' k = lookH h k) : VotesW ro h' p nv T W where
  nil e := by rw [hs p (.inl rfl)]; exact hv.nil e
  top e := by rw [hs p (.inl rfl)]; exact hv.top e
  tab e := by rw [hs _ (.inr (.inl ⟨e, rfl⟩))]; exact hv.tab e
  bn := hv.bn
  nd := hv.nd
  set i hi := by rw [hs _ (.inr (.inr ⟨i, hi, .inl rfl⟩))]; exact hv.set i hi
  mp i hi := by rw [hs _ (.inr (.inr ⟨i, hi, .inr rfl⟩))]; exact hv.mp i hi
  bns := hv.bns
  ne := hv.ne
  nds := hv.nds
  inj := hv.inj
theorem VotesW.ext {ro : Bool} {h h' : List Chunk} {p : Nat} {nv : Int} {T : VT} {W : VW} {N : Nat → Prop} (hv : VotesW ro h p nv T W) (he : Ext N h h') (hn : ∀ k, foot T W p k → ¬ N k) : VotesW ro h' p nv T W :=
  hv.same fun k hk => he.2 k (foot_lt hv hk) (hn k hk)
theorem VotesW.fz {h : List Chunk} {p : Nat} {nv : Int} {T : VT} {W : VW} (hv : VotesW false h p nv T W) : VotesW true (h.map Chunk.fz) p nv T W where
  nil e := by rw [lookH_fz, hv.nil e]; rfl
  top e := by rw [lookH_fz, hv.top e]; rfl
  tab e := by rw [lookH_fz, hv.tab e]; rfl
  bn := hv.bn
  nd := hv.nd
  set i hi := by rw [lookH_fz, hv.set i hi]; rfl
  mp i hi := by rw [lookH_fz, hv.mp i hi]; rfl
  bns := hv.bns
  ne := hv.ne
  nds := hv.nds
  inj := hv.inj
/-- Names of votes are names of different things. -/
theorem VotesW.ps {ro : Bool} {h : List Chunk} {p : Nat} {nv : Int} {T : VT} {W : VW} (hv : VotesW ro h p nv T W) {i : Nat} (hi : i < T.length) : W.s i ≠ p := fun e => by
  obtain ⟨fs, e1, e2⟩ := hv.pne
  have := hv.set i hi
  rw [e, e1] at this
  cases this
  cases e2
theorem VotesW.pt {ro : Bool} {h : List Chunk} {p : Nat} {nv : Int} {T : VT} {W : VW} (hv : VotesW ro h p nv T W) {i : Nat} (hi : i < T.length) : W.t i ≠ p := fun e => by
  obtain ⟨fs, e1, e2⟩ := hv.pne
  have := hv.mp i hi
  rw [e, e1] at this
  cases ro <;> simp [mpR] at this
theorem VotesW.pm {ro : Bool} {h : List Chunk} {p : Nat} {nv : Int} {T : VT} {W : VW} (hv : VotesW ro h p nv T W) (hT : T ≠ []) : W.m ≠ p := fun e => by
  obtain ⟨fs, e1, e2⟩ := hv.pne
  have := hv.tab hT
  rw [e, e1] at this
  cases ro <;> simp [mpR] at this
theorem VotesW.st {ro : Bool} {h : List Chunk} {p : Nat} {nv : Int} {T : VT} {W : VW} (hv : VotesW ro h p nv T W) {i j : Nat} (hi : i < T.length) (hj : j < T.length) : W.s i ≠ W.t j := fun e => by
  have h1 := hv.set i hi
  have h2 := hv.mp j hj
  rw [e, h2] at h1
  cases ro <;> simp [mpR] at h1
theorem VotesW.sm {ro : Bool} {h : List Chunk} {p : Nat} {nv : Int} {T : VT} {W : VW} (hv : VotesW ro h p nv T W) {i : Nat} (hi : i < T.length) : W.s i ≠ W.m := fun e => by
  have h1 := hv.set i hi
  have h2 := hv.tab (fun e => by rw [e] at hi; cases hi)
  rw [e, h2] at h1
  cases ro <;> simp [mpR] at h1
theorem VotesW.tm {ro : Bool} {h : List Chunk} {p : Nat} {nv : Int} {T : VT} {W : VW} (hv : VotesW ro h p nv T W) {i : Nat} (hi : i < T.length) : W.t i ≠ W.m := fun e => by
  have h1 := hv.mp i hi
  have h2 := hv.tab (fun e => by rw [e] at hi; cases hi)
  rw [e, h2] at h1
  have : (fun i => sS ((ks T).getD i default)) = fun j => SV.int .i64 ((vs T i).getD j default) := by
    cases ro <;> simp only [mpR, Bool.false_eq_true, if_false, if_true] at h1 <;> injection h1
  have := congrFun this 0
  cases this
end Go.Proofs.Ytloinbebkhcndaa

set_option linter.all false
set_option maxRecDepth 40000
namespace Go.Proofs.Ytloinbebkhcndaa
open Go Go.Sx

/-- Get, of a table that is only read. -/
theorem c93r (x : List UInt8) (L : List (List UInt8)) (nv : Int) (h : List Chunk) (p m : Nat) (w : Bool) (val : Nat → SV) (born : Nat → Nat) (clock : Nat) (hp : lookH h p = .cells w [.int .i64 nv, .mp m]) (hm : lookH h m = .rmap L.length (fun i => sS (L.getD i default)) val born clock) (K : Tok → SV → List Chunk → Prop)
    (hK : K .mk (match L.findIdx? (x == ·) with | some i => .tup [val i, .bool true] | none => .tup [.v (.pointer none), .bool false]) h) : callP Try.prog 93 [.ptr p 1, .str ⟨⟨x⟩⟩] h K := by
  have hks := keysS_L (d := default) keyT x L
  have hf := mfind_L (d := default) keyT x L
  have hkk : keyS tab 9 (.str ⟨⟨x⟩⟩) := trivial
  simp only [sS] at hks hf hm
  refine callP_of_code tabOk Try.func93 (by kernel_rfl) rfl (Nat.le_of_ble_eq_true rfl) (codeP_of_vc (pl := np) tabOk follows_mixed (by kernel_rfl) ?_)
  rw [Try.ntmps93]
  cases hq : L.findIdx? (x == ·) with
  | none =>
    rw [hq] at hf hK
    simp -implicitDefEqProofs (maxSteps := 1000000) (disch := omega) only [↓vcB, ↓gd, ↓opP, ↓qv, ↓ef, ↓bslS, ↓stS, ↓mkS, ↓rangeS, ↓nextS, ↓entryS, ↓delS, ↓mupS, ↓appS, ↓s2bS, ↓resS, evB, Sx.look, slot, ↓lkL, putS, putO, argsL, ↓reduceIte, ofV, of1, lookH, putH, List.length_cons, List.length_nil, List.length_append, List.replicate, List.append, List.cons_append, List.nil_append, List.append_assoc, List.map_cons, List.map_nil, convS, fldA, nthT, idxA, idxS, fldS, oslN, bnd, slS, unS, valI, lenS, lookS, takeC, psB, asRow, csB, Int.toNat_natCast, Int.le_refl, and_self, rdF, Ent.row, ldS, sz, szL, wrF, bldF, plT, bldS, srcS, nilS, nilEq, mapC, binH, binS2, structS, eqL, eqF, binS, arrS, isI, tupS, stor, storL, Value.oneCell', minS, maxS, capS, true_and, and_true, Nat.reduceAdd, Nat.reduceSub, Nat.reduceMul, Nat.reduceLT, Nat.reduceLeDiff, Nat.reduceEqDiff, Nat.reduceBEq, Int.reduceToNat, Int.reduceNeg, Nat.zero_add, Nat.add_zero, Nat.sub_self, Nat.sub_zero, Nat.zero_mul, Nat.mul_one, Nat.zero_le, if_true, if_false, reduceIte, stays, inL, same1, qn, ldN, convN, lenN, List.mem_cons, List.not_mem_nil, Option.map_some, Option.map_none, cond_true, cond_false, Sx.imp_true, Sx.imp_false, implies_true, Int.reduceEq, Int.reduceNe, Int.reduceLE, Int.reduceLT, decide_true, decide_false, List.zipIdx_cons, List.zipIdx_nil, or_false, false_or, forall_eq_or_imp, forall_eq, ne_eq, reduceCtorEq, not_false_eq_true, Bool.false_eq_true, Bool.true_eq_false, Bool.not_true, Bool.not_false, notInt, numB, tabB, Array.reduceGetElem?, upG, up, nth, lay, rcB, rnm, rnmL, wrB, pcB, Option.isNone, res93, hp, hm, hf, hks, hkk, Value.oneCell']
    exact intoR_refl (Nat.le_refl _) hK
  | some i =>
    rw [hq] at hf hK
    simp -implicitDefEqProofs (maxSteps := 1000000) (disch := omega) only [↓vcB, ↓gd, ↓opP, ↓qv, ↓ef, ↓bslS, ↓stS, ↓mkS, ↓rangeS, ↓nextS, ↓entryS, ↓delS, ↓mupS, ↓appS, ↓s2bS, ↓resS, evB, Sx.look, slot, ↓lkL, putS, putO, argsL, ↓reduceIte, ofV, of1, lookH, putH, List.length_cons, List.length_nil, List.length_append, List.replicate, List.append, List.cons_append, List.nil_append, List.append_assoc, List.map_cons, List.map_nil, convS, fldA, nthT, idxA, idxS, fldS, oslN, bnd, slS, unS, valI, lenS, lookS, takeC, psB, asRow, csB, Int.toNat_natCast, Int.le_refl, and_self, rdF, Ent.row, ldS, sz, szL, wrF, bldF, plT, bldS, srcS, nilS, nilEq, mapC, binH, binS2, structS, eqL, eqF, binS, arrS, isI, tupS, stor, storL, Value.oneCell', minS, maxS, capS, true_and, and_true, Nat.reduceAdd, Nat.reduceSub, Nat.reduceMul, Nat.reduceLT, Nat.reduceLeDiff, Nat.reduceEqDiff, Nat.reduceBEq, Int.reduceToNat, Int.reduceNeg, Nat.zero_add, Nat.add_zero, Nat.sub_self, Nat.sub_zero, Nat.zero_mul, Nat.mul_one, Nat.zero_le, if_true, if_false, reduceIte, stays, inL, same1, qn, ldN, convN, lenN, List.mem_cons, List.not_mem_nil, Option.map_some, Option.map_none, cond_true, cond_false, Sx.imp_true, Sx.imp_false, implies_true, Int.reduceEq, Int.reduceNe, Int.reduceLE, Int.reduceLT, decide_true, decide_false, List.zipIdx_cons, List.zipIdx_nil, or_false, false_or, forall_eq_or_imp, forall_eq, ne_eq, reduceCtorEq, not_false_eq_true, Bool.false_eq_true, Bool.true_eq_false, Bool.not_true, Bool.not_false, notInt, numB, tabB, Array.reduceGetElem?, upG, up, nth, lay, rcB, rnm, rnmL, wrB, pcB, Option.isNone, res93, hp, hm, hf, hks, hkk, Value.oneCell']
    exact intoR_refl (Nat.le_refl _) hK
theorem c54r (n : Nat) (key val : Nat → SV) (h : List Chunk) (p m : Nat) (w : Bool) (born : Nat → Nat) (clock : Nat) (hp : lookH h p = .cells w [.mp m]) (hm : lookH h m = .rmap n key val born clock) (K : Tok → SV → List Chunk → Prop) (hK : K .mk (.int .i64 (n : Nat)) h) : callP Try.prog 54 [.ptr p 0] h K := by
  refine callP_of_code tabOk Try.func54 (by kernel_rfl) rfl (Nat.le_of_ble_eq_true rfl) (codeP_of_vc (pl := np) tabOk follows_mixed (by kernel_rfl) ?_)
  rw [Try.ntmps54]
  simp -implicitDefEqProofs (maxSteps := 1000000) (disch := omega) only [↓vcB, ↓gd, ↓opP, ↓qv, ↓ef, ↓bslS, ↓stS, ↓mkS, ↓rangeS, ↓nextS, ↓entryS, ↓delS, ↓mupS, ↓appS, ↓s2bS, ↓resS, evB, Sx.look, slot, ↓lkL, putS, putO, argsL, ↓reduceIte, ofV, of1, lookH, putH, List.length_cons, List.length_nil, List.length_append, List.replicate, List.append, List.cons_append, List.nil_append, List.append_assoc, List.map_cons, List.map_nil, convS, fldA, nthT, idxA, idxS, fldS, oslN, bnd, slS, unS, valI, lenS, lookS, takeC, psB, asRow, csB, Int.toNat_natCast, Int.le_refl, and_self, rdF, Ent.row, ldS, sz, szL, wrF, bldF, plT, bldS, srcS, nilS, nilEq, mapC, binH, binS2, structS, eqL, eqF, binS, arrS, isI, tupS, stor, storL, Value.oneCell', minS, maxS, capS, true_and, and_true, Nat.reduceAdd, Nat.reduceSub, Nat.reduceMul, Nat.reduceLT, Nat.reduceLeDiff, Nat.reduceEqDiff, Nat.reduceBEq, Int.reduceToNat, Int.reduceNeg, Nat.zero_add, Nat.add_zero, Nat.sub_self, Nat.sub_zero, Nat.zero_mul, Nat.mul_one, Nat.zero_le, if_true, if_false, reduceIte, stays, inL, same1, qn, ldN, convN, lenN, List.mem_cons, List.not_mem_nil, Option.map_some, Option.map_none, cond_true, cond_false, Sx.imp_true, Sx.imp_false, implies_true, Int.reduceEq, Int.reduceNe, Int.reduceLE, Int.reduceLT, decide_true, decide_false, List.zipIdx_cons, List.zipIdx_nil, or_false, false_or, forall_eq_or_imp, forall_eq, ne_eq, reduceCtorEq, not_false_eq_true, Bool.false_eq_true, Bool.true_eq_false, Bool.not_true, Bool.not_false, notInt, numB, tabB, Array.reduceGetElem?, upG, up, nth, lay, rcB, rnm, rnmL, wrB, pcB, Option.isNone, res54, hp, hm]
  exact intoR_refl (Nat.le_refl _) hK
theorem c93W (x : Str) {ro : Bool} {h : List Chunk} {p : Nat} {nv : Int} {T : VT} {W : VW} (hv : VotesW ro h p nv T W) (K : Tok → SV → List Chunk → Prop) (hK : K .mk (match (ks T).findIdx? (x == ·) with | some i => .tup [.ptr (W.s i) 0, .bool true] | none => .tup [.v (.pointer none), .bool false]) h) : callP Try.prog 93 [.ptr p 1, .str ⟨⟨x⟩⟩] h K := by
  by_cases hT : T = []
  · have h1 := hv.nil hT
    subst hT
    exact c93n x nv h p (!ro) h1 K hK
  · cases ro with
    | false => exact c93m x (ks T) nv h p W.m true _ W.born W.clock (hv.top hT) (hv.tab hT) K hK
    | true => exact c93r x (ks T) nv h p W.m false _ W.born W.clock (hv.top hT) (hv.tab hT) K hK
/-- of: who voted for a key. -/
theorem c95W (x : Str) {ro : Bool} {h : List Chunk} {p : Nat} {nv : Int} {T : VT} {W : VW} (hv : VotesW ro h p nv T W) (K : Tok → SV → List Chunk → Prop) (hK : K .mk (match (ks T).findIdx? (x == ·) with | some i => .ptr (W.s i) 0 | none => .v (.pointer none)) h) : callP Try.prog 95 [.ptr p 0, .str ⟨⟨x⟩⟩] h K := by
  obtain ⟨fs, hp, hfs⟩ := hv.pne
  obtain ⟨f0, f1, rfl⟩ : ∃ a b, fs = [a, b] := by
    match fs, hfs with
    | [a, b], _ => exact ⟨a, b, rfl⟩
  refine callP_of_code tabOk Try.func95 (by kernel_rfl) rfl (Nat.le_of_ble_eq_true rfl) (codeP_of_vc (pl := pl95) tabOk follows_mixed (by kernel_rfl) ?_)
  rw [Try.ntmps95]
  simp -implicitDefEqProofs (maxSteps := 1000000) (disch := omega) only [↓vcB, ↓gd, ↓opP, ↓qv, ↓ef, ↓bslS, ↓stS, ↓mkS, ↓rangeS, ↓nextS, ↓entryS, ↓delS, ↓mupS, ↓appS, ↓s2bS, ↓resS, evB, Sx.look, slot, ↓lkL, putS, putO, argsL, ↓reduceIte, ofV, of1, lookH, putH, List.length_cons, List.length_nil, List.length_append, List.replicate, List.append, List.cons_append, List.nil_append, List.append_assoc, List.map_cons, List.map_nil, convS, fldA, nthT, idxA, idxS, fldS, oslN, bnd, slS, unS, valI, lenS, lookS, takeC, psB, asRow, csB, Int.toNat_natCast, Int.le_refl, and_self, rdF, Ent.row, ldS, sz, szL, wrF, bldF, plT, bldS, srcS, nilS, nilEq, mapC, binH, binS2, structS, eqL, eqF, binS, arrS, isI, tupS, stor, storL, Value.oneCell', minS, maxS, capS, true_and, and_true, Nat.reduceAdd, Nat.reduceSub, Nat.reduceMul, Nat.reduceLT, Nat.reduceLeDiff, Nat.reduceEqDiff, Nat.reduceBEq, Int.reduceToNat, Int.reduceNeg, Nat.zero_add, Nat.add_zero, Nat.sub_self, Nat.sub_zero, Nat.zero_mul, Nat.mul_one, Nat.zero_le, if_true, if_false, reduceIte, stays, inL, same1, qn, ldN, convN, lenN, List.mem_cons, List.not_mem_nil, Option.map_some, Option.map_none, cond_true, cond_false, Sx.imp_true, Sx.imp_false, implies_true, Int.reduceEq, Int.reduceNe, Int.reduceLE, Int.reduceLT, decide_true, decide_false, List.zipIdx_cons, List.zipIdx_nil, or_false, false_or, forall_eq_or_imp, forall_eq, ne_eq, reduceCtorEq, not_false_eq_true, Bool.false_eq_true, Bool.true_eq_false, Bool.not_true, Bool.not_false, notInt, numB, tabB, Array.reduceGetElem?, upG, up, nth, lay, rcB, rnm, rnmL, wrB, pcB, res95, pl95, hp, csz_nilFunc, Value.oneCell', Option.isNone]
  refine c93W x hv _ ?_
  cases hq : (ks T).findIdx? (x == ·) with
  | none =>
    rw [hq] at hK
    simp -implicitDefEqProofs (maxSteps := 1000000) (disch := omega) only [↓vcB, ↓gd, ↓opP, ↓qv, ↓ef, ↓bslS, ↓stS, ↓mkS, ↓rangeS, ↓nextS, ↓entryS, ↓delS, ↓mupS, ↓appS, ↓s2bS, ↓resS, evB, Sx.look, slot, ↓lkL, putS, putO, argsL, ↓reduceIte, ofV, of1, lookH, putH, List.length_cons, List.length_nil, List.length_append, List.replicate, List.append, List.cons_append, List.nil_append, List.append_assoc, List.map_cons, List.map_nil, convS, fldA, nthT, idxA, idxS, fldS, oslN, bnd, slS, unS, valI, lenS, lookS, takeC, psB, asRow, csB, Int.toNat_natCast, Int.le_refl, and_self, rdF, Ent.row, ldS, sz, szL, wrF, bldF, plT, bldS, srcS, nilS, nilEq, mapC, binH, binS2, structS, eqL, eqF, binS, arrS, isI, tupS, stor, storL, Value.oneCell', minS, maxS, capS, true_and, and_true, Nat.reduceAdd, Nat.reduceSub, Nat.reduceMul, Nat.reduceLT, Nat.reduceLeDiff, Nat.reduceEqDiff, Nat.reduceBEq, Int.reduceToNat, Int.reduceNeg, Nat.zero_add, Nat.add_zero, Nat.sub_self, Nat.sub_zero, Nat.zero_mul, Nat.mul_one, Nat.zero_le, if_true, if_false, reduceIte, stays, inL, same1, qn, ldN, convN, lenN, List.mem_cons, List.not_mem_nil, Option.map_some, Option.map_none, cond_true, cond_false, Sx.imp_true, Sx.imp_false, implies_true, Int.reduceEq, Int.reduceNe, Int.reduceLE, Int.reduceLT, decide_true, decide_false, List.zipIdx_cons, List.zipIdx_nil, or_false, false_or, forall_eq_or_imp, forall_eq, ne_eq, reduceCtorEq, not_false_eq_true, Bool.false_eq_true, Bool.true_eq_false, Bool.not_true, Bool.not_false, notInt, numB, tabB, Array.reduceGetElem?, upG, up, nth, lay, rcB, rnm, rnmL, wrB, pcB, res95, pl95, hp, csz_nilFunc, Value.oneCell', Option.isNone]
    exact intoR_refl (Nat.le_refl _) hK
  | some i =>
    rw [hq] at hK
    simp -implicitDefEqProofs (maxSteps := 1000000) (disch := omega) only [↓vcB, ↓gd, ↓opP, ↓qv, ↓ef, ↓bslS, ↓stS, ↓mkS, ↓rangeS, ↓nextS, ↓entryS, ↓delS, ↓mupS, ↓appS, ↓s2bS, ↓resS, evB, Sx.look, slot, ↓lkL, putS, putO, argsL, ↓reduceIte, ofV, of1, lookH, putH, List.length_cons, List.length_nil, List.length_append, List.replicate, List.append, List.cons_append, List.nil_append, List.append_assoc, List.map_cons, List.map_nil, convS, fldA, nthT, idxA, idxS, fldS, oslN, bnd, slS, unS, valI, lenS, lookS, takeC, psB, asRow, csB, Int.toNat_natCast, Int.le_refl, and_self, rdF, Ent.row, ldS, sz, szL, wrF, bldF, plT, bldS, srcS, nilS, nilEq, mapC, binH, binS2, structS, eqL, eqF, binS, arrS, isI, tupS, stor, storL, Value.oneCell', minS, maxS, capS, true_and, and_true, Nat.reduceAdd, Nat.reduceSub, Nat.reduceMul, Nat.reduceLT, Nat.reduceLeDiff, Nat.reduceEqDiff, Nat.reduceBEq, Int.reduceToNat, Int.reduceNeg, Nat.zero_add, Nat.add_zero, Nat.sub_self, Nat.sub_zero, Nat.zero_mul, Nat.mul_one, Nat.zero_le, if_true, if_false, reduceIte, stays, inL, same1, qn, ldN, convN, lenN, List.mem_cons, List.not_mem_nil, Option.map_some, Option.map_none, cond_true, cond_false, Sx.imp_true, Sx.imp_false, implies_true, Int.reduceEq, Int.reduceNe, Int.reduceLE, Int.reduceLT, decide_true, decide_false, List.zipIdx_cons, List.zipIdx_nil, or_false, false_or, forall_eq_or_imp, forall_eq, ne_eq, reduceCtorEq, not_false_eq_true, Bool.false_eq_true, Bool.true_eq_false, Bool.not_true, Bool.not_false, notInt, numB, tabB, Array.reduceGetElem?, upG, up, nth, lay, rcB, rnm, rnmL, wrB, pcB, res95, pl95, hp, csz_nilFunc, Value.oneCell', Option.isNone]
    exact intoR_refl (Nat.le_refl _) hK
/-- How many voted for a key. -/
def cnt (T : VT) (x : Str) : Nat := match (ks T).findIdx? (x == ·) with | some i => (vs T i).length | none => 0
theorem c72W (x : Str) {ro : Bool} {h : List Chunk} {p : Nat} {nv : Int} {T : VT} {W : VW} (hv : VotesW ro h p nv T W) (K : Tok → SV → List Chunk → Prop) (hK : K .mk (.int .i64 (cnt T x : Nat)) h) : callP Try.prog 72 [.ptr p 0, .str ⟨⟨x⟩⟩] h K := by
  refine callP_of_code tabOk Try.func72 (by kernel_rfl) rfl (Nat.le_of_ble_eq_true rfl) (codeP_of_vc (pl := pl72) tabOk follows_mixed (by kernel_rfl) ?_)
  rw [Try.ntmps72]
  simp -implicitDefEqProofs (maxSteps := 1000000) (disch := omega) only [↓vcB, ↓gd, ↓opP, ↓qv, ↓ef, ↓bslS, ↓stS, ↓mkS, ↓rangeS, ↓nextS, ↓entryS, ↓delS, ↓mupS, ↓appS, ↓s2bS, ↓resS, evB, Sx.look, slot, ↓lkL, putS, putO, argsL, ↓reduceIte, ofV, of1, lookH, putH, List.length_cons, List.length_nil, List.length_append, List.replicate, List.append, List.cons_append, List.nil_append, List.append_assoc, List.map_cons, List.map_nil, convS, fldA, nthT, idxA, idxS, fldS, oslN, bnd, slS, unS, valI, lenS, lookS, takeC, psB, asRow, csB, Int.toNat_natCast, Int.le_refl, and_self, rdF, Ent.row, ldS, sz, szL, wrF, bldF, plT, bldS, srcS, nilS, nilEq, mapC, binH, binS2, structS, eqL, eqF, binS, arrS, isI, tupS, stor, storL, Value.oneCell', minS, maxS, capS, true_and, and_true, Nat.reduceAdd, Nat.reduceSub, Nat.reduceMul, Nat.reduceLT, Nat.reduceLeDiff, Nat.reduceEqDiff, Nat.reduceBEq, Int.reduceToNat, Int.reduceNeg, Nat.zero_add, Nat.add_zero, Nat.sub_self, Nat.sub_zero, Nat.zero_mul, Nat.mul_one, Nat.zero_le, if_true, if_false, reduceIte, stays, inL, same1, qn, ldN, convN, lenN, List.mem_cons, List.not_mem_nil, Option.map_some, Option.map_none, cond_true, cond_false, Sx.imp_true, Sx.imp_false, implies_true, Int.reduceEq, Int.reduceNe, Int.reduceLE, Int.reduceLT, decide_true, decide_false, List.zipIdx_cons, List.zipIdx_nil, or_false, false_or, forall_eq_or_imp, forall_eq, ne_eq, reduceCtorEq, not_false_eq_true, Bool.false_eq_true, Bool.true_eq_false, Bool.not_true, Bool.not_false, notInt, numB, tabB, Array.reduceGetElem?, upG, up, nth, lay, rcB, rnm, rnmL, wrB, pcB, res72, pl72, csz_nilFunc, Value.oneCell', Option.isNone]
  refine c95W x hv _ ?_
  unfold cnt at hK
  cases hq : (ks T).findIdx? (x == ·) with
  | none =>
    rw [hq] at hK
    simp -implicitDefEqProofs (maxSteps := 1000000) (disch := omega) only [↓vcB, ↓gd, ↓opP, ↓qv, ↓ef, ↓bslS, ↓stS, ↓mkS, ↓rangeS, ↓nextS, ↓entryS, ↓delS, ↓mupS, ↓appS, ↓s2bS, ↓resS, evB, Sx.look, slot, ↓lkL, putS, putO, argsL, ↓reduceIte, ofV, of1, lookH, putH, List.length_cons, List.length_nil, List.length_append, List.replicate, List.append, List.cons_append, List.nil_append, List.append_assoc, List.map_cons, List.map_nil, convS, fldA, nthT, idxA, idxS, fldS, oslN, bnd, slS, unS, valI, lenS, lookS, takeC, psB, asRow, csB, Int.toNat_natCast, Int.le_refl, and_self, rdF, Ent.row, ldS, sz, szL, wrF, bldF, plT, bldS, srcS, nilS, nilEq, mapC, binH, binS2, structS, eqL, eqF, binS, arrS, isI, tupS, stor, storL, Value.oneCell', minS, maxS, capS, true_and, and_true, Nat.reduceAdd, Nat.reduceSub, Nat.reduceMul, Nat.reduceLT, Nat.reduceLeDiff, Nat.reduceEqDiff, Nat.reduceBEq, Int.reduceToNat, Int.reduceNeg, Nat.zero_add, Nat.add_zero, Nat.sub_self, Nat.sub_zero, Nat.zero_mul, Nat.mul_one, Nat.zero_le, if_true, if_false, reduceIte, stays, inL, same1, qn, ldN, convN, lenN, List.mem_cons, List.not_mem_nil, Option.map_some, Option.map_none, cond_true, cond_false, Sx.imp_true, Sx.imp_false, implies_true, Int.reduceEq, Int.reduceNe, Int.reduceLE, Int.reduceLT, decide_true, decide_false, List.zipIdx_cons, List.zipIdx_nil, or_false, false_or, forall_eq_or_imp, forall_eq, ne_eq, reduceCtorEq, not_false_eq_true, Bool.false_eq_true, Bool.true_eq_false, Bool.not_true, Bool.not_false, notInt, numB, tabB, Array.reduceGetElem?, upG, up, nth, lay, rcB, rnm, rnmL, wrB, pcB, res72, pl72, csz_nilFunc, Value.oneCell', Option.isNone]
    refine c54z _ _ ?_
    simp -implicitDefEqProofs (maxSteps := 1000000) (disch := omega) only [↓vcB, ↓gd, ↓opP, ↓qv, ↓ef, ↓bslS, ↓stS, ↓mkS, ↓rangeS, ↓nextS, ↓entryS, ↓delS, ↓mupS, ↓appS, ↓s2bS, ↓resS, evB, Sx.look, slot, ↓lkL, putS, putO, argsL, ↓reduceIte, ofV, of1, lookH, putH, List.length_cons, List.length_nil, List.length_append, List.replicate, List.append, List.cons_append, List.nil_append, List.append_assoc, List.map_cons, List.map_nil, convS, fldA, nthT, idxA, idxS, fldS, oslN, bnd, slS, unS, valI, lenS, lookS, takeC, psB, asRow, csB, Int.toNat_natCast, Int.le_refl, and_self, rdF, Ent.row, ldS, sz, szL, wrF, bldF, plT, bldS, srcS, nilS, nilEq, mapC, binH, binS2, structS, eqL, eqF, binS, arrS, isI, tupS, stor, storL, Value.oneCell', minS, maxS, capS, true_and, and_true, Nat.reduceAdd, Nat.reduceSub, Nat.reduceMul, Nat.reduceLT, Nat.reduceLeDiff, Nat.reduceEqDiff, Nat.reduceBEq, Int.reduceToNat, Int.reduceNeg, Nat.zero_add, Nat.add_zero, Nat.sub_self, Nat.sub_zero, Nat.zero_mul, Nat.mul_one, Nat.zero_le, if_true, if_false, reduceIte, stays, inL, same1, qn, ldN, convN, lenN, List.mem_cons, List.not_mem_nil, Option.map_some, Option.map_none, cond_true, cond_false, Sx.imp_true, Sx.imp_false, implies_true, Int.reduceEq, Int.reduceNe, Int.reduceLE, Int.reduceLT, decide_true, decide_false, List.zipIdx_cons, List.zipIdx_nil, or_false, false_or, forall_eq_or_imp, forall_eq, ne_eq, reduceCtorEq, not_false_eq_true, Bool.false_eq_true, Bool.true_eq_false, Bool.not_true, Bool.not_false, notInt, numB, tabB, Array.reduceGetElem?, upG, up, nth, lay, rcB, rnm, rnmL, wrB, pcB, res72, pl72, csz_nilFunc, Value.oneCell', Option.isNone]
    exact intoR_refl (Nat.le_refl _) hK
  | some i =>
    rw [hq] at hK
    have hi : i < T.length := by
      obtain ⟨h1, _⟩ := find_some hq
      rwa [ks_len] at h1
    simp -implicitDefEqProofs (maxSteps := 1000000) (disch := omega) only [↓vcB, ↓gd, ↓opP, ↓qv, ↓ef, ↓bslS, ↓stS, ↓mkS, ↓rangeS, ↓nextS, ↓entryS, ↓delS, ↓mupS, ↓appS, ↓s2bS, ↓resS, evB, Sx.look, slot, ↓lkL, putS, putO, argsL, ↓reduceIte, ofV, of1, lookH, putH, List.length_cons, List.length_nil, List.length_append, List.replicate, List.append, List.cons_append, List.nil_append, List.append_assoc, List.map_cons, List.map_nil, convS, fldA, nthT, idxA, idxS, fldS, oslN, bnd, slS, unS, valI, lenS, lookS, takeC, psB, asRow, csB, Int.toNat_natCast, Int.le_refl, and_self, rdF, Ent.row, ldS, sz, szL, wrF, bldF, plT, bldS, srcS, nilS, nilEq, mapC, binH, binS2, structS, eqL, eqF, binS, arrS, isI, tupS, stor, storL, Value.oneCell', minS, maxS, capS, true_and, and_true, Nat.reduceAdd, Nat.reduceSub, Nat.reduceMul, Nat.reduceLT, Nat.reduceLeDiff, Nat.reduceEqDiff, Nat.reduceBEq, Int.reduceToNat, Int.reduceNeg, Nat.zero_add, Nat.add_zero, Nat.sub_self, Nat.sub_zero, Nat.zero_mul, Nat.mul_one, Nat.zero_le, if_true, if_false, reduceIte, stays, inL, same1, qn, ldN, convN, lenN, List.mem_cons, List.not_mem_nil, Option.map_some, Option.map_none, cond_true, cond_false, Sx.imp_true, Sx.imp_false, implies_true, Int.reduceEq, Int.reduceNe, Int.reduceLE, Int.reduceLT, decide_true, decide_false, List.zipIdx_cons, List.zipIdx_nil, or_false, false_or, forall_eq_or_imp, forall_eq, ne_eq, reduceCtorEq, not_false_eq_true, Bool.false_eq_true, Bool.true_eq_false, Bool.not_true, Bool.not_false, notInt, numB, tabB, Array.reduceGetElem?, upG, up, nth, lay, rcB, rnm, rnmL, wrB, pcB, res72, pl72, csz_nilFunc, Value.oneCell', Option.isNone]
    cases ro with
    | false =>
      refine c54 (vs T i).length _ _ _ (W.s i) (W.t i) true (W.bs i) (W.cs i) (hv.set i hi) (hv.mp i hi) _ ?_
      simp -implicitDefEqProofs (maxSteps := 1000000) (disch := omega) only [↓vcB, ↓gd, ↓opP, ↓qv, ↓ef, ↓bslS, ↓stS, ↓mkS, ↓rangeS, ↓nextS, ↓entryS, ↓delS, ↓mupS, ↓appS, ↓s2bS, ↓resS, evB, Sx.look, slot, ↓lkL, putS, putO, argsL, ↓reduceIte, ofV, of1, lookH, putH, List.length_cons, List.length_nil, List.length_append, List.replicate, List.append, List.cons_append, List.nil_append, List.append_assoc, List.map_cons, List.map_nil, convS, fldA, nthT, idxA, idxS, fldS, oslN, bnd, slS, unS, valI, lenS, lookS, takeC, psB, asRow, csB, Int.toNat_natCast, Int.le_refl, and_self, rdF, Ent.row, ldS, sz, szL, wrF, bldF, plT, bldS, srcS, nilS, nilEq, mapC, binH, binS2, structS, eqL, eqF, binS, arrS, isI, tupS, stor, storL, Value.oneCell', minS, maxS, capS, true_and, and_true, Nat.reduceAdd, Nat.reduceSub, Nat.reduceMul, Nat.reduceLT, Nat.reduceLeDiff, Nat.reduceEqDiff, Nat.reduceBEq, Int.reduceToNat, Int.reduceNeg, Nat.zero_add, Nat.add_zero, Nat.sub_self, Nat.sub_zero, Nat.zero_mul, Nat.mul_one, Nat.zero_le, if_true, if_false, reduceIte, stays, inL, same1, qn, ldN, convN, lenN, List.mem_cons, List.not_mem_nil, Option.map_some, Option.map_none, cond_true, cond_false, Sx.imp_true, Sx.imp_false, implies_true, Int.reduceEq, Int.reduceNe, Int.reduceLE, Int.reduceLT, decide_true, decide_false, List.zipIdx_cons, List.zipIdx_nil, or_false, false_or, forall_eq_or_imp, forall_eq, ne_eq, reduceCtorEq, not_false_eq_true, Bool.false_eq_true, Bool.true_eq_false, Bool.not_true, Bool.not_false, notInt, numB, tabB, Array.reduceGetElem?, upG, up, nth, lay, rcB, rnm, rnmL, wrB, pcB, res72, pl72, csz_nilFunc, Value.oneCell', Option.isNone]
      exact intoR_refl (Nat.le_refl _) hK
    | true =>
      refine c54r (vs T i).length _ _ _ (W.s i) (W.t i) false (W.bs i) (W.cs i) (hv.set i hi) (hv.mp i hi) _ ?_
      simp -implicitDefEqProofs (maxSteps := 1000000) (disch := omega) only [↓vcB, ↓gd, ↓opP, ↓qv, ↓ef, ↓bslS, ↓stS, ↓mkS, ↓rangeS, ↓nextS, ↓entryS, ↓delS, ↓mupS, ↓appS, ↓s2bS, ↓resS, evB, Sx.look, slot, ↓lkL, putS, putO, argsL, ↓reduceIte, ofV, of1, lookH, putH, List.length_cons, List.length_nil, List.length_append, List.replicate, List.append, List.cons_append, List.nil_append, List.append_assoc, List.map_cons, List.map_nil, convS, fldA, nthT, idxA, idxS, fldS, oslN, bnd, slS, unS, valI, lenS, lookS, takeC, psB, asRow, csB, Int.toNat_natCast, Int.le_refl, and_self, rdF, Ent.row, ldS, sz, szL, wrF, bldF, plT, bldS, srcS, nilS, nilEq, mapC, binH, binS2, structS, eqL, eqF, binS, arrS, isI, tupS, stor, storL, Value.oneCell', minS, maxS, capS, true_and, and_true, Nat.reduceAdd, Nat.reduceSub, Nat.reduceMul, Nat.reduceLT, Nat.reduceLeDiff, Nat.reduceEqDiff, Nat.reduceBEq, Int.reduceToNat, Int.reduceNeg, Nat.zero_add, Nat.add_zero, Nat.sub_self, Nat.sub_zero, Nat.zero_mul, Nat.mul_one, Nat.zero_le, if_true, if_false, reduceIte, stays, inL, same1, qn, ldN, convN, lenN, List.mem_cons, List.not_mem_nil, Option.map_some, Option.map_none, cond_true, cond_false, Sx.imp_true, Sx.imp_false, implies_true, Int.reduceEq, Int.reduceNe, Int.reduceLE, Int.reduceLT, decide_true, decide_false, List.zipIdx_cons, List.zipIdx_nil, or_false, false_or, forall_eq_or_imp, forall_eq, ne_eq, reduceCtorEq, not_false_eq_true, Bool.false_eq_true, Bool.true_eq_false, Bool.not_true, Bool.not_false, notInt, numB, tabB, Array.reduceGetElem?, upG, up, nth, lay, rcB, rnm, rnmL, wrB, pcB, res72, pl72, csz_nilFunc, Value.oneCell', Option.isNone]
      exact intoR_refl (Nat.le_refl _) hK
end Go.Proofs.Ytloinbebkhcndaa

set_option linter.all false
set_option maxRecDepth 40000
namespace Go.Proofs.Ytloinbebkhcndaa
open Go Go.Sx

theorem vs_set (T : VT) (i : Nat) (e : Str × List Int) (hi : i < T.length) (j : Nat) : vs (T.set i e) j = if j = i then e.2 else vs T j := by
  unfold vs
  rw [List.getD_eq_getElem?_getD, List.getElem?_set]
  by_cases h : i = j
  · subst h
    simp [hi]
  · rw [if_neg h, if_neg (fun e => h e.symm), ← List.getD_eq_getElem?_getD]
theorem ks_set (T : VT) (i : Nat) (x : Str) (l : List Int) (hi : i < T.length) (hx : (ks T)[i]'(by rw [ks_len]; exact hi) = x) : ks (T.set i (x, l)) = ks T := by
  unfold ks
  rw [List.map_set]
  apply List.ext_getElem?
  intro j
  rw [List.getElem?_set]
  by_cases h : i = j
  · subst h
    have : (List.map (·.1) T)[i]'(by simpa using hi) = x := hx
    simp only [if_true, List.length_map, hi, if_true]
    rw [List.getElem?_eq_getElem (by simpa using hi), this]
  · rw [if_neg h]
theorem vs_snoc (T : VT) (e : Str × List Int) (j : Nat) (hj : j < T.length + 1) : vs (T ++ [e]) j = if j = T.length then e.2 else vs T j := by
  unfold vs
  rw [List.getD_eq_getElem?_getD]
  by_cases h : j = T.length
  · subst h; simp
  · rw [if_neg h, List.getElem?_append_left (by omega), ← List.getD_eq_getElem?_getD]
theorem ks_snoc (T : VT) (x : Str) (l : List Int) : ks (T ++ [(x, l)]) = ks T ++ [x] := by simp [ks]
theorem lookH_at (l : List Chunk) {h : List Chunk} {k : Nat} (hk : k < h.length) : lookH (h ++ l) k = lookH h k := by
  induction h generalizing k with
  | nil => simp at hk
  | cons c h ih =>
    cases k with
    | zero => rfl
    | succ k => exact ih (k := k) (by simpa using hk)
/-- A vote more for a key that is there. -/
theorem VotesW.grow {h : List Chunk} {p : Nat} {nv : Int} {T : VT} {W : VW} (hv : VotesW false h p nv T W) {i : Nat} (hi : i < T.length) {x : Str} (hx : (ks T)[i]'(by rw [ks_len]; exact hi) = x) {a : Int} (ha : a ∉ vs T i) :
    VotesW false (putH h (W.t i) (.map (vs T i ++ [a]).length (fun j => .int .i64 ((vs T i ++ [a]).getD j default)) (fun _ => .int .i64 1) (fun j => if j < (vs T i).length then W.bs i j else W.cs i) (W.cs i + 1))) p nv (T.set i (x, vs T i ++ [a]))
      { W with bs := fun k => if k = i then (fun j => if j < (vs T i).length then W.bs i j else W.cs i) else W.bs k, cs := fun k => if k = i then W.cs i + 1 else W.cs k } := by
  have hne : T ≠ [] := fun e => by rw [e] at hi; cases hi
  have hlt : W.t i < h.length := lookH_lt (hv.mp i hi) (mpR_ne _ _ _ _ _ _)
  have hl : ∀ {k}, k ≠ W.t i → ∀ c, lookH (putH h (W.t i) c) k = lookH h k := fun hk c => lookH_put_ne c hk
  have ek := ks_set T i x (vs T i ++ [a]) hi hx
  refine ⟨fun e => absurd e (by simp [hne]), fun _ => ?_, fun _ => ?_, ?_, ?_, fun j hj => ?_, fun j hj => ?_, fun j hj => ?_, fun j hj => ?_, fun j hj => ?_, fun j k hj hk => ?_⟩
  · rw [hl (fun e => hv.pt hi e.symm)]; exact hv.top hne
  · rw [hl (fun e => hv.tm hi e.symm), ek]; exact hv.tab hne
  · rw [List.length_set]; exact hv.bn
  · rw [ek]; exact hv.nd
  · rw [List.length_set] at hj
    rw [hl (hv.st hj hi)]; exact hv.set j hj
  · rw [List.length_set] at hj
    rw [vs_set T i _ hi]
    by_cases e : j = i
    · subst e
      simp only [if_true]
      rw [lookH_put_same _ hlt]
      rfl
    · simp only [if_neg e]
      rw [hl (fun q => e (hv.inj j i hj hi q))]
      exact hv.mp j hj
  · rw [List.length_set] at hj
    rw [vs_set T i _ hi]
    by_cases e : j = i
    · subst e
      simp only [if_true, List.length_append]
      exact bn_snoc (hv.bns j hj)
    · simp only [if_neg e]
      exact hv.bns j hj
  · rw [List.length_set] at hj
    rw [vs_set T i _ hi]
    by_cases e : j = i
    · simp [e]
    · simp only [if_neg e]; exact hv.ne j hj
  · rw [List.length_set] at hj
    rw [vs_set T i _ hi]
    by_cases e : j = i
    · subst e
      simp only [if_true]
      exact nodup_snoc (hv.nds j hj) ha
    · simp only [if_neg e]; exact hv.nds j hj
  · rw [List.length_set] at hj hk
    exact hv.inj j k hj hk
/-- The first vote for a key, where there are others. -/
theorem VotesW.more {h : List Chunk} {p : Nat} {nv : Int} {T : VT} {W : VW} (hv : VotesW false h p nv T W) (hT : T ≠ []) {x : Str} (hx : x ∉ ks T) (a : Int) {h' : List Chunk} (hlen : h'.length = h.length + 2)
    (h1 : lookH h' W.m = .map (ks T ++ [x]).length (fun j => sS ((ks T ++ [x]).getD j default)) (fun j => .ptr (if j < T.length then W.s j else h.length) 0) (fun j => if j < T.length then W.born j else W.clock) (W.clock + 1))
    (h2 : lookH h' h.length = .cells true [.mp (h.length + 1)]) (h3 : lookH h' (h.length + 1) = .map 1 (fun j => .int .i64 ([a].getD j default)) (fun _ => .int .i64 1) (fun _ => 0) 1) (h4 : ∀ k, k < h.length → k ≠ W.m → lookH h' k = lookH h k) :
    VotesW false h' p nv (T ++ [(x, [a])]) ⟨W.m, fun j => if j < T.length then W.s j else h.length, fun j => if j < T.length then W.t j else h.length + 1, fun j => if j < T.length then W.born j else W.clock, W.clock + 1, fun j => if j < T.length then W.bs j else fun _ => 0, fun j => if j < T.length then W.cs j else 1⟩ := by
  have hp := foot_lt hv (k := p) (.inl rfl)
  have hs : ∀ {j}, j < T.length → W.s j < h.length := fun hj => foot_lt hv (.inr (.inr ⟨_, hj, .inl rfl⟩))
  have ht : ∀ {j}, j < T.length → W.t j < h.length := fun hj => foot_lt hv (.inr (.inr ⟨_, hj, .inr rfl⟩))
  refine ⟨fun e => absurd e (by simp), fun _ => ?_, fun _ => ?_, ?_, ?_, fun j hj => ?_, fun j hj => ?_, fun j hj => ?_, fun j hj => ?_, fun j hj => ?_, fun j k hj hk he => ?_⟩
  · rw [h4 p hp (fun e => hv.pm hT e.symm)]; exact hv.top hT
  · rw [ks_snoc]; exact h1
  · rw [List.length_append]; exact bn_snoc hv.bn
  · rw [ks_snoc]; exact nodup_snoc hv.nd hx
  · rw [List.length_append, List.length_singleton] at hj
    by_cases e : j < T.length
    · simp only [if_pos e]
      rw [h4 _ (hs e) (hv.sm e)]
      exact hv.set j e
    · simp only [if_neg e]
      exact h2
  · rw [List.length_append, List.length_singleton] at hj
    rw [vs_snoc T _ j hj]
    by_cases e : j < T.length
    · simp only [if_pos e, if_neg (show ¬ j = T.length by omega)]
      rw [h4 _ (ht e) (hv.tm e)]
      exact hv.mp j e
    · simp only [if_neg e, if_pos (show j = T.length by omega)]
      exact h3
  · rw [List.length_append, List.length_singleton] at hj
    rw [vs_snoc T _ j hj]
    by_cases e : j < T.length
    · simp only [if_pos e, if_neg (show ¬ j = T.length by omega)]
      exact hv.bns j e
    · simp only [if_neg e, if_pos (show j = T.length by omega)]
      exact bn_one
  · rw [List.length_append, List.length_singleton] at hj
    rw [vs_snoc T _ j hj]
    by_cases e : j < T.length
    · simp only [if_neg (show ¬ j = T.length by omega)]
      exact hv.ne j e
    · simp [show j = T.length by omega]
  · rw [List.length_append, List.length_singleton] at hj
    rw [vs_snoc T _ j hj]
    by_cases e : j < T.length
    · simp only [if_neg (show ¬ j = T.length by omega)]
      exact hv.nds j e
    · simp [show j = T.length by omega]
  · rw [List.length_append, List.length_singleton] at hj hk
    simp only at he
    by_cases e1 : j < T.length <;> by_cases e2 : k < T.length
    · rw [if_pos e1, if_pos e2] at he
      exact hv.inj j k e1 e2 he
    · rw [if_pos e1, if_neg e2] at he
      have := ht e1
      omega
    · rw [if_neg e1, if_pos e2] at he
      have := ht e2
      omega
    · omega
end Go.Proofs.Ytloinbebkhcndaa
