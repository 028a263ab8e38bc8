/- Texts put together: Contracts of functions that the laws reach, by the symbolic executor of the texts Sxa to Syf. No condition. -/
import Derived.Test.YtloinbebkhcndaaMc
set_option linter.all false
set_option maxRecDepth 40000
namespace Go.Proofs.Ytloinbebkhcndaa
open Go Go.Sx

def pl81 : Nat → Plan := fun _ => .nil

def pl82 : Nat → Plan := fun _ => .nil

def pl78 : Nat → Plan
  | 4 => (.q 0 (.q 1 (.q 2 (.e1 3 [1] (.e1 4 [0, 1, 3] (.q 5 .nil))))))
  | _ => .nil

def pl80 : Nat → Plan := fun _ => .nil

/-- The first so many of a sequence. -/
theorem gives81 (f : FuncId) (lb : List Value) (n : Nat) (A : Nat → Int) (a : Int) (ha : -9223372036854775808 ≤ a ∧ a ≤ 9223372036854775807) (N : Nat) (hN : N = min n a.toNat) {ρ : Env} {B : Nat → Prop} {w0 : World} (hB : ∀ b, B b → b < w0.heap.size) (hH : ∀ k c, [Chunk.cells false [.int .i64 a], .cells false [.v (.func (.func f) #[] ⟨lb⟩)]][k]? = some c → Holds ρ w0 k c ∧ (Real ρ k c → B (ρ k).b))
    (hs : Gives Try.prog f lb B n (fun i => .int .i64 (A i)) w0) : Gives Try.prog 81 (denL ρ [.ptr 0 0, .ptr 1 0]) B N (fun i => .int .i64 (A i)) w0 := by
  refine gives_of_codeY (P := seqPr Try.prog f lb n fun i => .int .i64 (A i)) tabOk Try.func81 (by kernel_rfl) rfl res81 (Nat.le_of_ble_eq_true rfl) (by simp [slot, lkL, fixed, rg, renH, chB, lookH, eqvL, eqv, eqvF, rnmL, rnm, liveN, lvB, goodH, gdB, okL, ok, sz, szL, storL, stor, renT, okT, pcB, Value.oneCell']) (by simp [okL, ok]) (by simp [Chunk.wr]) (fun l => ?_) hB hH
    (fun w hw hb => ⟨B, fun b hb hx => hx.elim id fun h => h.2 hb, hs.later hw hb⟩) (fv := .nilFunc) (fx := fun _ => none) (nofx _)
  refine codeY_of_vc (pl := pl81) tabOk follows_mixed (by kernel_rfl) ?_
  rw [Try.ntmps81]
  by_cases h0 : a < 1
  · have h1 : decide (a < 1) = true := decide_eq_true h0
    simp -implicitDefEqProofs (maxSteps := 1000000) (disch := omega) only [↓vcB, ↓gd, ↓opP, ↓qv, ↓ef, ↓bslS, ↓stS, ↓mkS, ↓rangeS, ↓nextS, ↓entryS, ↓delS, ↓mupS, ↓appS, ↓s2bS, ↓resS, evB, Sx.look, slot, ↓lkL, putS, putO, argsL, ↓reduceIte, ofV, of1, lookH, putH, List.length_cons, List.length_nil, List.length_append, List.replicate, List.append, List.cons_append, List.nil_append, List.append_assoc, List.map_cons, List.map_nil, convS, fldA, nthT, idxA, idxS, fldS, oslN, bnd, slS, unS, valI, lenS, lookS, takeC, psB, asRow, csB, Int.toNat_natCast, Int.le_refl, and_self, rdF, Ent.row, ldS, sz, szL, wrF, bldF, plT, bldS, srcS, nilS, nilEq, mapC, binH, binS2, structS, eqL, eqF, binS, arrS, isI, tupS, stor, storL, Value.oneCell', minS, maxS, capS, true_and, and_true, Nat.reduceAdd, Nat.reduceSub, Nat.reduceMul, Nat.reduceLT, Nat.reduceLeDiff, Nat.reduceEqDiff, Nat.reduceBEq, Int.reduceToNat, Int.reduceNeg, Nat.zero_add, Nat.add_zero, Nat.sub_self, Nat.sub_zero, Nat.zero_mul, Nat.mul_one, Nat.zero_le, if_true, if_false, reduceIte, stays, inL, same1, qn, ldN, convN, lenN, List.mem_cons, List.not_mem_nil, Option.map_some, Option.map_none, cond_true, cond_false, Sx.imp_true, Sx.imp_false, implies_true, Int.reduceEq, Int.reduceNe, Int.reduceLE, Int.reduceLT, decide_true, decide_false, List.zipIdx_cons, List.zipIdx_nil, or_false, false_or, forall_eq_or_imp, forall_eq, ne_eq, reduceCtorEq, not_false_eq_true, Bool.false_eq_true, Bool.true_eq_false, Bool.not_true, Bool.not_false, notInt, numB, tabB, ↓vyB, ↓opY, roA, liveA, lvB, frz, frz1, true_or, Array.reduceGetElem?, upG, up, nth, lay, rcB, rnm, rnmL, wrB, pcB, h1]
    exact endsG_run (by omega)
  · have h1 : decide (a < 1) = false := decide_eq_false h0
    simp -implicitDefEqProofs (maxSteps := 1000000) (disch := omega) only [↓vcB, ↓gd, ↓opP, ↓qv, ↓ef, ↓bslS, ↓stS, ↓mkS, ↓rangeS, ↓nextS, ↓entryS, ↓delS, ↓mupS, ↓appS, ↓s2bS, ↓resS, evB, Sx.look, slot, ↓lkL, putS, putO, argsL, ↓reduceIte, ofV, of1, lookH, putH, List.length_cons, List.length_nil, List.length_append, List.replicate, List.append, List.cons_append, List.nil_append, List.append_assoc, List.map_cons, List.map_nil, convS, fldA, nthT, idxA, idxS, fldS, oslN, bnd, slS, unS, valI, lenS, lookS, takeC, psB, asRow, csB, Int.toNat_natCast, Int.le_refl, and_self, rdF, Ent.row, ldS, sz, szL, wrF, bldF, plT, bldS, srcS, nilS, nilEq, mapC, binH, binS2, structS, eqL, eqF, binS, arrS, isI, tupS, stor, storL, Value.oneCell', minS, maxS, capS, true_and, and_true, Nat.reduceAdd, Nat.reduceSub, Nat.reduceMul, Nat.reduceLT, Nat.reduceLeDiff, Nat.reduceEqDiff, Nat.reduceBEq, Int.reduceToNat, Int.reduceNeg, Nat.zero_add, Nat.add_zero, Nat.sub_self, Nat.sub_zero, Nat.zero_mul, Nat.mul_one, Nat.zero_le, if_true, if_false, reduceIte, stays, inL, same1, qn, ldN, convN, lenN, List.mem_cons, List.not_mem_nil, Option.map_some, Option.map_none, cond_true, cond_false, Sx.imp_true, Sx.imp_false, implies_true, Int.reduceEq, Int.reduceNe, Int.reduceLE, Int.reduceLT, decide_true, decide_false, List.zipIdx_cons, List.zipIdx_nil, or_false, false_or, forall_eq_or_imp, forall_eq, ne_eq, reduceCtorEq, not_false_eq_true, Bool.false_eq_true, Bool.true_eq_false, Bool.not_true, Bool.not_false, notInt, numB, tabB, ↓vyB, ↓opY, roA, liveA, lvB, frz, frz1, true_or, Array.reduceGetElem?, upG, up, nth, lay, rcB, rnm, rnmL, wrB, pcB, h1]
    refine callP_weak (c79 f lb _ _ ?_)
    simp -implicitDefEqProofs (maxSteps := 1000000) (disch := omega) only [↓vcB, ↓gd, ↓opP, ↓qv, ↓ef, ↓bslS, ↓stS, ↓mkS, ↓rangeS, ↓nextS, ↓entryS, ↓delS, ↓mupS, ↓appS, ↓s2bS, ↓resS, evB, Sx.look, slot, ↓lkL, putS, putO, argsL, ↓reduceIte, ofV, of1, lookH, putH, List.length_cons, List.length_nil, List.length_append, List.replicate, List.append, List.cons_append, List.nil_append, List.append_assoc, List.map_cons, List.map_nil, convS, fldA, nthT, idxA, idxS, fldS, oslN, bnd, slS, unS, valI, lenS, lookS, takeC, psB, asRow, csB, Int.toNat_natCast, Int.le_refl, and_self, rdF, Ent.row, ldS, sz, szL, wrF, bldF, plT, bldS, srcS, nilS, nilEq, mapC, binH, binS2, structS, eqL, eqF, binS, arrS, isI, tupS, stor, storL, Value.oneCell', minS, maxS, capS, true_and, and_true, Nat.reduceAdd, Nat.reduceSub, Nat.reduceMul, Nat.reduceLT, Nat.reduceLeDiff, Nat.reduceEqDiff, Nat.reduceBEq, Int.reduceToNat, Int.reduceNeg, Nat.zero_add, Nat.add_zero, Nat.sub_self, Nat.sub_zero, Nat.zero_mul, Nat.mul_one, Nat.zero_le, if_true, if_false, reduceIte, stays, inL, same1, qn, ldN, convN, lenN, List.mem_cons, List.not_mem_nil, Option.map_some, Option.map_none, cond_true, cond_false, Sx.imp_true, Sx.imp_false, implies_true, Int.reduceEq, Int.reduceNe, Int.reduceLE, Int.reduceLT, decide_true, decide_false, List.zipIdx_cons, List.zipIdx_nil, or_false, false_or, forall_eq_or_imp, forall_eq, ne_eq, reduceCtorEq, not_false_eq_true, Bool.false_eq_true, Bool.true_eq_false, Bool.not_true, Bool.not_false, notInt, numB, tabB, ↓vyB, ↓opY, roA, liveA, lvB, frz, frz1, true_or, Array.reduceGetElem?, upG, up, nth, lay, rcB, rnm, rnmL, wrB, pcB, h1]
    refine codeY_range [] n (fun i => .int .i64 (A i)) (fun _ => trivial) (by simp [roA, liveA, lookH, Chunk.live, Chunk.wr]) (by simp) (fun ρ w X hk _ => ?_) (fun i g h' => g = .run i ∧ (i : Int) < a ∧ i ≤ n ∧ h' = [.cells false [.int .i64 a], .cells false [.v (.func (.func f) #[] ⟨lb⟩)], .cells true [.v (.func (.yield l) #[] #[])], .cells true [.int .i64 (a - i)]]) (fun i g e h' => e = .ret ∧ endsG N g) ?_ ?_ ?_ ?_
    · exact hk.elim fun B hk => ⟨f, lb, B, rfl, hk.2, fun b hb => .inl (hk.1 b hb)⟩
    · exact ⟨rfl, by omega, by omega, by simp [frz, inL]⟩
    · rintro i g h' hi ⟨rfl, hia, hin, rfl⟩
      refine codeY_of_vc (pl := pl81) tabOk follows_mixed (by kernel_rfl) ?_
      simp -implicitDefEqProofs (maxSteps := 1000000) (disch := omega) only [↓vcB, ↓gd, ↓opP, ↓qv, ↓ef, ↓bslS, ↓stS, ↓mkS, ↓rangeS, ↓nextS, ↓entryS, ↓delS, ↓mupS, ↓appS, ↓s2bS, ↓resS, evB, Sx.look, slot, ↓lkL, putS, putO, argsL, ↓reduceIte, ofV, of1, lookH, putH, List.length_cons, List.length_nil, List.length_append, List.replicate, List.append, List.cons_append, List.nil_append, List.append_assoc, List.map_cons, List.map_nil, convS, fldA, nthT, idxA, idxS, fldS, oslN, bnd, slS, unS, valI, lenS, lookS, takeC, psB, asRow, csB, Int.toNat_natCast, Int.le_refl, and_self, rdF, Ent.row, ldS, sz, szL, wrF, bldF, plT, bldS, srcS, nilS, nilEq, mapC, binH, binS2, structS, eqL, eqF, binS, arrS, isI, tupS, stor, storL, Value.oneCell', minS, maxS, capS, true_and, and_true, Nat.reduceAdd, Nat.reduceSub, Nat.reduceMul, Nat.reduceLT, Nat.reduceLeDiff, Nat.reduceEqDiff, Nat.reduceBEq, Int.reduceToNat, Int.reduceNeg, Nat.zero_add, Nat.add_zero, Nat.sub_self, Nat.sub_zero, Nat.zero_mul, Nat.mul_one, Nat.zero_le, if_true, if_false, reduceIte, stays, inL, same1, qn, ldN, convN, lenN, List.mem_cons, List.not_mem_nil, Option.map_some, Option.map_none, cond_true, cond_false, Sx.imp_true, Sx.imp_false, implies_true, Int.reduceEq, Int.reduceNe, Int.reduceLE, Int.reduceLT, decide_true, decide_false, List.zipIdx_cons, List.zipIdx_nil, or_false, false_or, forall_eq_or_imp, forall_eq, ne_eq, reduceCtorEq, not_false_eq_true, Bool.false_eq_true, Bool.true_eq_false, Bool.not_true, Bool.not_false, notInt, numB, tabB, ↓vyB, ↓opY, roA, liveA, lvB, frz, frz1, true_or, Array.reduceGetElem?, upG, up, nth, lay, rcB, rnm, rnmL, wrB, pcB, h1]
      refine codeY_of_vc (pl := pl81) tabOk follows_mixed (by kernel_rfl) ?_
      have a0 : IntKind.i64.wrap (a - (i : Int) - 1) = a - ((i + 1 : Nat) : Int) := by rw [wrap64 (by omega) (by omega)]; omega
      by_cases hl : a - ((i + 1 : Nat) : Int) = 0
      · have g0 : (a - ((i + 1 : Nat) : Int) == 0) = true := by rw [hl]; rfl
        simp -implicitDefEqProofs (maxSteps := 1000000) (disch := omega) only [↓vcB, ↓gd, ↓opP, ↓qv, ↓ef, ↓bslS, ↓stS, ↓mkS, ↓rangeS, ↓nextS, ↓entryS, ↓delS, ↓mupS, ↓appS, ↓s2bS, ↓resS, evB, Sx.look, slot, ↓lkL, putS, putO, argsL, ↓reduceIte, ofV, of1, lookH, putH, List.length_cons, List.length_nil, List.length_append, List.replicate, List.append, List.cons_append, List.nil_append, List.append_assoc, List.map_cons, List.map_nil, convS, fldA, nthT, idxA, idxS, fldS, oslN, bnd, slS, unS, valI, lenS, lookS, takeC, psB, asRow, csB, Int.toNat_natCast, Int.le_refl, and_self, rdF, Ent.row, ldS, sz, szL, wrF, bldF, plT, bldS, srcS, nilS, nilEq, mapC, binH, binS2, structS, eqL, eqF, binS, arrS, isI, tupS, stor, storL, Value.oneCell', minS, maxS, capS, true_and, and_true, Nat.reduceAdd, Nat.reduceSub, Nat.reduceMul, Nat.reduceLT, Nat.reduceLeDiff, Nat.reduceEqDiff, Nat.reduceBEq, Int.reduceToNat, Int.reduceNeg, Nat.zero_add, Nat.add_zero, Nat.sub_self, Nat.sub_zero, Nat.zero_mul, Nat.mul_one, Nat.zero_le, if_true, if_false, reduceIte, stays, inL, same1, qn, ldN, convN, lenN, List.mem_cons, List.not_mem_nil, Option.map_some, Option.map_none, cond_true, cond_false, Sx.imp_true, Sx.imp_false, implies_true, Int.reduceEq, Int.reduceNe, Int.reduceLE, Int.reduceLT, decide_true, decide_false, List.zipIdx_cons, List.zipIdx_nil, or_false, false_or, forall_eq_or_imp, forall_eq, ne_eq, reduceCtorEq, not_false_eq_true, Bool.false_eq_true, Bool.true_eq_false, Bool.not_true, Bool.not_false, notInt, numB, tabB, ↓vyB, ↓opY, roA, liveA, lvB, frz, frz1, true_or, Array.reduceGetElem?, upG, up, nth, lay, rcB, rnm, rnmL, wrB, pcB, a0, g0]
        exact ⟨⟨by omega, fun _ => rfl⟩, ⟨rfl, intoY_refl ⟨endsG_run (by omega), by simp [roA, liveA, lookH, frz, frz1, inL, Chunk.live, Chunk.wr]⟩⟩, rfl, intoY_refl ⟨endsG_stop (by omega), by simp [roA, liveA, lookH, frz, frz1, inL, Chunk.live, Chunk.wr]⟩⟩
      · have g0 : (a - ((i + 1 : Nat) : Int) == 0) = false := beq_eq_false_iff_ne.2 hl
        simp -implicitDefEqProofs (maxSteps := 1000000) (disch := omega) only [↓vcB, ↓gd, ↓opP, ↓qv, ↓ef, ↓bslS, ↓stS, ↓mkS, ↓rangeS, ↓nextS, ↓entryS, ↓delS, ↓mupS, ↓appS, ↓s2bS, ↓resS, evB, Sx.look, slot, ↓lkL, putS, putO, argsL, ↓reduceIte, ofV, of1, lookH, putH, List.length_cons, List.length_nil, List.length_append, List.replicate, List.append, List.cons_append, List.nil_append, List.append_assoc, List.map_cons, List.map_nil, convS, fldA, nthT, idxA, idxS, fldS, oslN, bnd, slS, unS, valI, lenS, lookS, takeC, psB, asRow, csB, Int.toNat_natCast, Int.le_refl, and_self, rdF, Ent.row, ldS, sz, szL, wrF, bldF, plT, bldS, srcS, nilS, nilEq, mapC, binH, binS2, structS, eqL, eqF, binS, arrS, isI, tupS, stor, storL, Value.oneCell', minS, maxS, capS, true_and, and_true, Nat.reduceAdd, Nat.reduceSub, Nat.reduceMul, Nat.reduceLT, Nat.reduceLeDiff, Nat.reduceEqDiff, Nat.reduceBEq, Int.reduceToNat, Int.reduceNeg, Nat.zero_add, Nat.add_zero, Nat.sub_self, Nat.sub_zero, Nat.zero_mul, Nat.mul_one, Nat.zero_le, if_true, if_false, reduceIte, stays, inL, same1, qn, ldN, convN, lenN, List.mem_cons, List.not_mem_nil, Option.map_some, Option.map_none, cond_true, cond_false, Sx.imp_true, Sx.imp_false, implies_true, Int.reduceEq, Int.reduceNe, Int.reduceLE, Int.reduceLT, decide_true, decide_false, List.zipIdx_cons, List.zipIdx_nil, or_false, false_or, forall_eq_or_imp, forall_eq, ne_eq, reduceCtorEq, not_false_eq_true, Bool.false_eq_true, Bool.true_eq_false, Bool.not_true, Bool.not_false, notInt, numB, tabB, ↓vyB, ↓opY, roA, liveA, lvB, frz, frz1, true_or, Array.reduceGetElem?, upG, up, nth, lay, rcB, rnm, rnmL, wrB, pcB, a0, g0]
        exact ⟨⟨by omega, fun _ => rfl⟩, intoY_refl ⟨⟨by omega, by omega, rfl⟩, by simp [roA, liveA, lookH, frz, frz1, inL, Chunk.live, Chunk.wr]⟩, rfl, intoY_refl ⟨endsG_stop (by omega), by simp [roA, liveA, lookH, frz, frz1, inL, Chunk.live, Chunk.wr]⟩⟩
    · rintro g h' ⟨rfl, hia, hin, rfl⟩
      exact endsG_run (by omega)
    · rintro i g e h' hi ⟨rfl, he⟩
      exact ⟨rfl, he⟩

/-- Those behind the first. -/
theorem gives82 (f : FuncId) (lb : List Value) (n : Nat) (A : Nat → Int) (a : Int) (ha : -9223372036854775808 ≤ a ∧ a ≤ 9223372036854775807) (N : Nat) (hN : N = n - a.toNat) {ρ : Env} {B : Nat → Prop} {w0 : World} (hB : ∀ b, B b → b < w0.heap.size) (hH : ∀ k c, [Chunk.cells false [.int .i64 a], .cells false [.v (.func (.func f) #[] ⟨lb⟩)]][k]? = some c → Holds ρ w0 k c ∧ (Real ρ k c → B (ρ k).b))
    (hs : Gives Try.prog f lb B n (fun i => .int .i64 (A i)) w0) : Gives Try.prog 82 (denL ρ [.ptr 0 0, .ptr 1 0]) B N (fun i => .int .i64 (A (a.toNat + i))) w0 := by
  refine gives_of_codeY (P := seqPr Try.prog f lb n fun i => .int .i64 (A i)) tabOk Try.func82 (by kernel_rfl) rfl res82 (Nat.le_of_ble_eq_true rfl) (by simp [slot, lkL, fixed, rg, renH, chB, lookH, eqvL, eqv, eqvF, rnmL, rnm, liveN, lvB, goodH, gdB, okL, ok, sz, szL, storL, stor, renT, okT, pcB, Value.oneCell']) (by simp [okL, ok]) (by simp [Chunk.wr]) (fun l => ?_) hB hH
    (fun w hw hb => ⟨B, fun b hb hx => hx.elim id fun h => h.2 hb, hs.later hw hb⟩) (fv := .nilFunc) (fx := fun _ => none) (nofx _)
  refine codeY_of_vc (pl := pl82) tabOk follows_mixed (by kernel_rfl) ?_
  rw [Try.ntmps82]
  simp -implicitDefEqProofs (maxSteps := 1000000) (disch := omega) only [↓vcB, ↓gd, ↓opP, ↓qv, ↓ef, ↓bslS, ↓stS, ↓mkS, ↓rangeS, ↓nextS, ↓entryS, ↓delS, ↓mupS, ↓appS, ↓s2bS, ↓resS, evB, Sx.look, slot, ↓lkL, putS, putO, argsL, ↓reduceIte, ofV, of1, lookH, putH, List.length_cons, List.length_nil, List.length_append, List.replicate, List.append, List.cons_append, List.nil_append, List.append_assoc, List.map_cons, List.map_nil, convS, fldA, nthT, idxA, idxS, fldS, oslN, bnd, slS, unS, valI, lenS, lookS, takeC, psB, asRow, csB, Int.toNat_natCast, Int.le_refl, and_self, rdF, Ent.row, ldS, sz, szL, wrF, bldF, plT, bldS, srcS, nilS, nilEq, mapC, binH, binS2, structS, eqL, eqF, binS, arrS, isI, tupS, stor, storL, Value.oneCell', minS, maxS, capS, true_and, and_true, Nat.reduceAdd, Nat.reduceSub, Nat.reduceMul, Nat.reduceLT, Nat.reduceLeDiff, Nat.reduceEqDiff, Nat.reduceBEq, Int.reduceToNat, Int.reduceNeg, Nat.zero_add, Nat.add_zero, Nat.sub_self, Nat.sub_zero, Nat.zero_mul, Nat.mul_one, Nat.zero_le, if_true, if_false, reduceIte, stays, inL, same1, qn, ldN, convN, lenN, List.mem_cons, List.not_mem_nil, Option.map_some, Option.map_none, cond_true, cond_false, Sx.imp_true, Sx.imp_false, implies_true, Int.reduceEq, Int.reduceNe, Int.reduceLE, Int.reduceLT, decide_true, decide_false, List.zipIdx_cons, List.zipIdx_nil, or_false, false_or, forall_eq_or_imp, forall_eq, ne_eq, reduceCtorEq, not_false_eq_true, Bool.false_eq_true, Bool.true_eq_false, Bool.not_true, Bool.not_false, notInt, numB, tabB, ↓vyB, ↓opY, roA, liveA, lvB, frz, frz1, true_or, Array.reduceGetElem?, upG, up, nth, lay, rcB, rnm, rnmL, wrB, pcB]
  refine callP_weak (c79 f lb _ _ ?_)
  simp -implicitDefEqProofs (maxSteps := 1000000) (disch := omega) only [↓vcB, ↓gd, ↓opP, ↓qv, ↓ef, ↓bslS, ↓stS, ↓mkS, ↓rangeS, ↓nextS, ↓entryS, ↓delS, ↓mupS, ↓appS, ↓s2bS, ↓resS, evB, Sx.look, slot, ↓lkL, putS, putO, argsL, ↓reduceIte, ofV, of1, lookH, putH, List.length_cons, List.length_nil, List.length_append, List.replicate, List.append, List.cons_append, List.nil_append, List.append_assoc, List.map_cons, List.map_nil, convS, fldA, nthT, idxA, idxS, fldS, oslN, bnd, slS, unS, valI, lenS, lookS, takeC, psB, asRow, csB, Int.toNat_natCast, Int.le_refl, and_self, rdF, Ent.row, ldS, sz, szL, wrF, bldF, plT, bldS, srcS, nilS, nilEq, mapC, binH, binS2, structS, eqL, eqF, binS, arrS, isI, tupS, stor, storL, Value.oneCell', minS, maxS, capS, true_and, and_true, Nat.reduceAdd, Nat.reduceSub, Nat.reduceMul, Nat.reduceLT, Nat.reduceLeDiff, Nat.reduceEqDiff, Nat.reduceBEq, Int.reduceToNat, Int.reduceNeg, Nat.zero_add, Nat.add_zero, Nat.sub_self, Nat.sub_zero, Nat.zero_mul, Nat.mul_one, Nat.zero_le, if_true, if_false, reduceIte, stays, inL, same1, qn, ldN, convN, lenN, List.mem_cons, List.not_mem_nil, Option.map_some, Option.map_none, cond_true, cond_false, Sx.imp_true, Sx.imp_false, implies_true, Int.reduceEq, Int.reduceNe, Int.reduceLE, Int.reduceLT, decide_true, decide_false, List.zipIdx_cons, List.zipIdx_nil, or_false, false_or, forall_eq_or_imp, forall_eq, ne_eq, reduceCtorEq, not_false_eq_true, Bool.false_eq_true, Bool.true_eq_false, Bool.not_true, Bool.not_false, notInt, numB, tabB, ↓vyB, ↓opY, roA, liveA, lvB, frz, frz1, true_or, Array.reduceGetElem?, upG, up, nth, lay, rcB, rnm, rnmL, wrB, pcB]
  refine codeY_range [] n (fun i => .int .i64 (A i)) (fun _ => trivial) (by simp [roA, liveA, lookH, Chunk.live, Chunk.wr]) (by simp) (fun ρ w X hk _ => ?_) (fun i g h' => ∃ left : Int, g = .run (i - a.toNat) ∧ i ≤ n ∧ left = (if (i : Int) < a then a - i else min a 0) ∧ h' = [.cells false [.int .i64 a], .cells false [.v (.func (.func f) #[] ⟨lb⟩)], .cells true [.v (.func (.yield l) #[] #[])], .cells true [.int .i64 left]]) (fun i g e h' => e = .ret ∧ endsG N g) ?_ ?_ ?_ ?_
  · exact hk.elim fun B hk => ⟨f, lb, B, rfl, hk.2, fun b hb => .inl (hk.1 b hb)⟩
  · exact ⟨a, by simp, by omega, by split <;> omega, by simp [frz, inL]⟩
  · rintro i g h' hi ⟨left, rfl, hin, hleft, rfl⟩
    refine codeY_of_vc (pl := pl82) tabOk follows_mixed (by kernel_rfl) ?_
    simp -implicitDefEqProofs (maxSteps := 1000000) (disch := omega) only [↓vcB, ↓gd, ↓opP, ↓qv, ↓ef, ↓bslS, ↓stS, ↓mkS, ↓rangeS, ↓nextS, ↓entryS, ↓delS, ↓mupS, ↓appS, ↓s2bS, ↓resS, evB, Sx.look, slot, ↓lkL, putS, putO, argsL, ↓reduceIte, ofV, of1, lookH, putH, List.length_cons, List.length_nil, List.length_append, List.replicate, List.append, List.cons_append, List.nil_append, List.append_assoc, List.map_cons, List.map_nil, convS, fldA, nthT, idxA, idxS, fldS, oslN, bnd, slS, unS, valI, lenS, lookS, takeC, psB, asRow, csB, Int.toNat_natCast, Int.le_refl, and_self, rdF, Ent.row, ldS, sz, szL, wrF, bldF, plT, bldS, srcS, nilS, nilEq, mapC, binH, binS2, structS, eqL, eqF, binS, arrS, isI, tupS, stor, storL, Value.oneCell', minS, maxS, capS, true_and, and_true, Nat.reduceAdd, Nat.reduceSub, Nat.reduceMul, Nat.reduceLT, Nat.reduceLeDiff, Nat.reduceEqDiff, Nat.reduceBEq, Int.reduceToNat, Int.reduceNeg, Nat.zero_add, Nat.add_zero, Nat.sub_self, Nat.sub_zero, Nat.zero_mul, Nat.mul_one, Nat.zero_le, if_true, if_false, reduceIte, stays, inL, same1, qn, ldN, convN, lenN, List.mem_cons, List.not_mem_nil, Option.map_some, Option.map_none, cond_true, cond_false, Sx.imp_true, Sx.imp_false, implies_true, Int.reduceEq, Int.reduceNe, Int.reduceLE, Int.reduceLT, decide_true, decide_false, List.zipIdx_cons, List.zipIdx_nil, or_false, false_or, forall_eq_or_imp, forall_eq, ne_eq, reduceCtorEq, not_false_eq_true, Bool.false_eq_true, Bool.true_eq_false, Bool.not_true, Bool.not_false, notInt, numB, tabB, ↓vyB, ↓opY, roA, liveA, lvB, frz, frz1, true_or, Array.reduceGetElem?, upG, up, nth, lay, rcB, rnm, rnmL, wrB, pcB]
    refine codeY_of_vc (pl := pl82) tabOk follows_mixed (by kernel_rfl) ?_
    by_cases hl : (i : Int) < a
    · rw [if_pos hl] at hleft
      have g0 : decide (left > 0) = true := decide_eq_true (by omega)
      have a0 : IntKind.i64.wrap (left - 1) = left - 1 := wrap64 (by omega) (by omega)
      simp -implicitDefEqProofs (maxSteps := 1000000) (disch := omega) only [↓vcB, ↓gd, ↓opP, ↓qv, ↓ef, ↓bslS, ↓stS, ↓mkS, ↓rangeS, ↓nextS, ↓entryS, ↓delS, ↓mupS, ↓appS, ↓s2bS, ↓resS, evB, Sx.look, slot, ↓lkL, putS, putO, argsL, ↓reduceIte, ofV, of1, lookH, putH, List.length_cons, List.length_nil, List.length_append, List.replicate, List.append, List.cons_append, List.nil_append, List.append_assoc, List.map_cons, List.map_nil, convS, fldA, nthT, idxA, idxS, fldS, oslN, bnd, slS, unS, valI, lenS, lookS, takeC, psB, asRow, csB, Int.toNat_natCast, Int.le_refl, and_self, rdF, Ent.row, ldS, sz, szL, wrF, bldF, plT, bldS, srcS, nilS, nilEq, mapC, binH, binS2, structS, eqL, eqF, binS, arrS, isI, tupS, stor, storL, Value.oneCell', minS, maxS, capS, true_and, and_true, Nat.reduceAdd, Nat.reduceSub, Nat.reduceMul, Nat.reduceLT, Nat.reduceLeDiff, Nat.reduceEqDiff, Nat.reduceBEq, Int.reduceToNat, Int.reduceNeg, Nat.zero_add, Nat.add_zero, Nat.sub_self, Nat.sub_zero, Nat.zero_mul, Nat.mul_one, Nat.zero_le, if_true, if_false, reduceIte, stays, inL, same1, qn, ldN, convN, lenN, List.mem_cons, List.not_mem_nil, Option.map_some, Option.map_none, cond_true, cond_false, Sx.imp_true, Sx.imp_false, implies_true, Int.reduceEq, Int.reduceNe, Int.reduceLE, Int.reduceLT, decide_true, decide_false, List.zipIdx_cons, List.zipIdx_nil, or_false, false_or, forall_eq_or_imp, forall_eq, ne_eq, reduceCtorEq, not_false_eq_true, Bool.false_eq_true, Bool.true_eq_false, Bool.not_true, Bool.not_false, notInt, numB, tabB, ↓vyB, ↓opY, roA, liveA, lvB, frz, frz1, true_or, Array.reduceGetElem?, upG, up, nth, lay, rcB, rnm, rnmL, wrB, pcB, a0, g0]
      refine intoY_refl ⟨⟨left - 1, by congr 1; omega, by omega, ?_, rfl⟩, by simp [roA, liveA, lookH, frz, frz1, inL, Chunk.live, Chunk.wr]⟩
      split <;> omega
    · rw [if_neg hl] at hleft
      have g0 : decide (left > 0) = false := decide_eq_false (by omega)
      simp -implicitDefEqProofs (maxSteps := 1000000) (disch := omega) only [↓vcB, ↓gd, ↓opP, ↓qv, ↓ef, ↓bslS, ↓stS, ↓mkS, ↓rangeS, ↓nextS, ↓entryS, ↓delS, ↓mupS, ↓appS, ↓s2bS, ↓resS, evB, Sx.look, slot, ↓lkL, putS, putO, argsL, ↓reduceIte, ofV, of1, lookH, putH, List.length_cons, List.length_nil, List.length_append, List.replicate, List.append, List.cons_append, List.nil_append, List.append_assoc, List.map_cons, List.map_nil, convS, fldA, nthT, idxA, idxS, fldS, oslN, bnd, slS, unS, valI, lenS, lookS, takeC, psB, asRow, csB, Int.toNat_natCast, Int.le_refl, and_self, rdF, Ent.row, ldS, sz, szL, wrF, bldF, plT, bldS, srcS, nilS, nilEq, mapC, binH, binS2, structS, eqL, eqF, binS, arrS, isI, tupS, stor, storL, Value.oneCell', minS, maxS, capS, true_and, and_true, Nat.reduceAdd, Nat.reduceSub, Nat.reduceMul, Nat.reduceLT, Nat.reduceLeDiff, Nat.reduceEqDiff, Nat.reduceBEq, Int.reduceToNat, Int.reduceNeg, Nat.zero_add, Nat.add_zero, Nat.sub_self, Nat.sub_zero, Nat.zero_mul, Nat.mul_one, Nat.zero_le, if_true, if_false, reduceIte, stays, inL, same1, qn, ldN, convN, lenN, List.mem_cons, List.not_mem_nil, Option.map_some, Option.map_none, cond_true, cond_false, Sx.imp_true, Sx.imp_false, implies_true, Int.reduceEq, Int.reduceNe, Int.reduceLE, Int.reduceLT, decide_true, decide_false, List.zipIdx_cons, List.zipIdx_nil, or_false, false_or, forall_eq_or_imp, forall_eq, ne_eq, reduceCtorEq, not_false_eq_true, Bool.false_eq_true, Bool.true_eq_false, Bool.not_true, Bool.not_false, notInt, numB, tabB, ↓vyB, ↓opY, roA, liveA, lvB, frz, frz1, true_or, Array.reduceGetElem?, upG, up, nth, lay, rcB, rnm, rnmL, wrB, pcB, g0]
      exact ⟨⟨by omega, fun _ => by rw [show a.toNat + (i - a.toNat) = i by omega]; rfl⟩, intoY_refl ⟨⟨left, by congr 1; omega, by omega, by rw [if_neg (by omega)]; exact hleft, rfl⟩, by simp [roA, liveA, lookH, frz, frz1, inL, Chunk.live, Chunk.wr]⟩, rfl, intoY_refl ⟨endsG_stop (by omega), by simp [roA, liveA, lookH, frz, frz1, inL, Chunk.live, Chunk.wr]⟩⟩
  · rintro g h' ⟨left, rfl, hin, hleft, rfl⟩
    exact endsG_run (by omega)
  · rintro i g e h' hi ⟨rfl, he⟩
    exact ⟨rfl, he⟩

def fxI (φ : Int → Int) : List SV → Option SV
  | [.int .i64 x] => some (.int .i64 (φ x))
  | _ => none
def fxB (β : Int → Bool) : List SV → Option SV
  | [.int .i64 x] => some (.bool (β x))
  | _ => none
theorem fxI_1 (φ : Int → Int) (x : Int) : fxI φ [.int .i64 x] = some (.int .i64 (φ x)) := rfl
theorem fxB_1 (β : Int → Bool) (x : Int) : fxB β [.int .i64 x] = some (.bool (β x)) := rfl
theorem fxI_ok {φ : Int → Int} {args : List SV} {r : SV} (h : fxI φ args = some r) : ok 0 r := by
  unfold fxI at h
  split at h <;> cases h
  trivial
theorem fxB_ok {β : Int → Bool} {args : List SV} {r : SV} (h : fxB β args = some r) : ok 0 r := by
  unfold fxB at h
  split at h <;> cases h
  trivial
/-- A function value that only reads: what it gives. -/
def Pures (B : Nat → Prop) (fv : Value) (fx : List SV → Option SV) (w : World) : Prop := ∀ args r, fx args = some r → ok 0 r ∧ ∀ ρ, PureAt Try.prog B fv (denL ρ args) (den ρ r) w
theorem Pures.later {B : Nat → Prop} {fv : Value} {fx : List SV → Option SV} {w0 w : World} (h : Pures B fv fx w0) (hs : w0.heap.size ≤ w.heap.size) (hb : ∀ b, B b → w.heap[b]? = w0.heap[b]?) : Pures B fv fx w := fun args r hr => ⟨(h args r hr).1, fun ρ => ((h args r hr).2 ρ).later hs hb⟩
def cntB (b : Nat → Bool) (i : Nat) : Nat := ((List.range i).filter b).length
theorem cntB_succ (b : Nat → Bool) (i : Nat) : cntB b (i + 1) = cntB b i + (if b i then 1 else 0) := by
  unfold cntB
  rw [List.range_succ, List.filter_append, List.length_append]
  cases h : b i <;> simp [h]
theorem cntB_mono (b : Nat → Bool) {i j : Nat} (h : i ≤ j) : cntB b i ≤ cntB b j := by
  induction h with
  | refl => exact Nat.le_refl _
  | step h ih => rw [cntB_succ]; omega
theorem cntB_lt (b : Nat → Bool) {i n : Nat} (h : i < n) (hb : b i = true) : cntB b i < cntB b n := by
  have h1 := cntB_mono b (show i + 1 ≤ n from h)
  rw [cntB_succ, hb] at h1
  simp at h1
  omega

/-- What a function makes of each. -/
theorem gives78 (f : FuncId) (lb : List Value) (f2 : FuncId) (lb2 : List Value) (n : Nat) (A : Nat → Int) (φ : Int → Int) {ρ : Env} {B : Nat → Prop} {w0 : World} (hB : ∀ b, B b → b < w0.heap.size) (hH : ∀ k c, [Chunk.cells false [.v (.func (.func f2) #[] ⟨lb2⟩)], .cells false [.v (.func (.func f) #[] ⟨lb⟩)]][k]? = some c → Holds ρ w0 k c ∧ (Real ρ k c → B (ρ k).b))
    (hs : Gives Try.prog f lb B n (fun i => .int .i64 (A i)) w0) (hf : Pures B (.func (.func f2) #[] ⟨lb2⟩) (fxI φ) w0) : Gives Try.prog 78 (denL ρ [.ptr 0 0, .ptr 1 0]) B n (fun i => .int .i64 (φ (A i))) w0 := by
  refine gives_of_codeY (P := seqfPr Try.prog f lb n (fun i => .int .i64 (A i)) (.func (.func f2) #[] ⟨lb2⟩) (fxI φ) ⟨[.int .i64 0], _, rfl⟩) tabOk Try.func78 (by kernel_rfl) rfl res78 (Nat.le_of_ble_eq_true rfl) (by simp [slot, lkL, fixed, rg, renH, chB, lookH, eqvL, eqv, eqvF, rnmL, rnm, liveN, lvB, goodH, gdB, okL, ok, sz, szL, storL, stor, renT, okT, pcB, Value.oneCell']) (by simp [okL, ok]) (by simp [Chunk.wr]) (fun l => ?_) hB hH
    (fun w hw hb => ⟨⟨B, fun b hb hx => hx.elim id fun h => h.2 hb, hs.later hw hb⟩, B, fun b hb hx => hx.elim id fun h => h.2 hb, hf.later hw hb⟩) (fv := (.func (.func f2) #[] ⟨lb2⟩)) (fx := fxI φ) (fun args r har => ⟨fxI_ok har, fun ρ w X hk => hk.2.elim fun B h => ⟨B, h.1, (h.2 args r har).2 ρ⟩⟩)
  refine codeY_of_vc (pl := pl78) tabOk follows_mixed (by kernel_rfl) ?_
  rw [Try.ntmps78]
  simp -implicitDefEqProofs (maxSteps := 1000000) (disch := omega) only [↓vcB, ↓gd, ↓opP, ↓qv, ↓ef, ↓bslS, ↓stS, ↓mkS, ↓rangeS, ↓nextS, ↓entryS, ↓delS, ↓mupS, ↓appS, ↓s2bS, ↓resS, evB, Sx.look, slot, ↓lkL, putS, putO, argsL, ↓reduceIte, ofV, of1, lookH, putH, List.length_cons, List.length_nil, List.length_append, List.replicate, List.append, List.cons_append, List.nil_append, List.append_assoc, List.map_cons, List.map_nil, convS, fldA, nthT, idxA, idxS, fldS, oslN, bnd, slS, unS, valI, lenS, lookS, takeC, psB, asRow, csB, Int.toNat_natCast, Int.le_refl, and_self, rdF, Ent.row, ldS, sz, szL, wrF, bldF, plT, bldS, srcS, nilS, nilEq, mapC, binH, binS2, structS, eqL, eqF, binS, arrS, isI, tupS, stor, storL, Value.oneCell', minS, maxS, capS, true_and, and_true, Nat.reduceAdd, Nat.reduceSub, Nat.reduceMul, Nat.reduceLT, Nat.reduceLeDiff, Nat.reduceEqDiff, Nat.reduceBEq, Int.reduceToNat, Int.reduceNeg, Nat.zero_add, Nat.add_zero, Nat.sub_self, Nat.sub_zero, Nat.zero_mul, Nat.mul_one, Nat.zero_le, if_true, if_false, reduceIte, stays, inL, same1, qn, ldN, convN, lenN, List.mem_cons, List.not_mem_nil, Option.map_some, Option.map_none, cond_true, cond_false, Sx.imp_true, Sx.imp_false, implies_true, Int.reduceEq, Int.reduceNe, Int.reduceLE, Int.reduceLT, decide_true, decide_false, List.zipIdx_cons, List.zipIdx_nil, or_false, false_or, forall_eq_or_imp, forall_eq, ne_eq, reduceCtorEq, not_false_eq_true, Bool.false_eq_true, Bool.true_eq_false, Bool.not_true, Bool.not_false, notInt, numB, tabB, ↓vyB, ↓opY, roA, liveA, lvB, frz, frz1, true_or, Array.reduceGetElem?, upG, up, nth, lay, rcB, rnm, rnmL, wrB, pcB]
  refine callP_weak (c79 f lb _ _ ?_)
  simp -implicitDefEqProofs (maxSteps := 1000000) (disch := omega) only [↓vcB, ↓gd, ↓opP, ↓qv, ↓ef, ↓bslS, ↓stS, ↓mkS, ↓rangeS, ↓nextS, ↓entryS, ↓delS, ↓mupS, ↓appS, ↓s2bS, ↓resS, evB, Sx.look, slot, ↓lkL, putS, putO, argsL, ↓reduceIte, ofV, of1, lookH, putH, List.length_cons, List.length_nil, List.length_append, List.replicate, List.append, List.cons_append, List.nil_append, List.append_assoc, List.map_cons, List.map_nil, convS, fldA, nthT, idxA, idxS, fldS, oslN, bnd, slS, unS, valI, lenS, lookS, takeC, psB, asRow, csB, Int.toNat_natCast, Int.le_refl, and_self, rdF, Ent.row, ldS, sz, szL, wrF, bldF, plT, bldS, srcS, nilS, nilEq, mapC, binH, binS2, structS, eqL, eqF, binS, arrS, isI, tupS, stor, storL, Value.oneCell', minS, maxS, capS, true_and, and_true, Nat.reduceAdd, Nat.reduceSub, Nat.reduceMul, Nat.reduceLT, Nat.reduceLeDiff, Nat.reduceEqDiff, Nat.reduceBEq, Int.reduceToNat, Int.reduceNeg, Nat.zero_add, Nat.add_zero, Nat.sub_self, Nat.sub_zero, Nat.zero_mul, Nat.mul_one, Nat.zero_le, if_true, if_false, reduceIte, stays, inL, same1, qn, ldN, convN, lenN, List.mem_cons, List.not_mem_nil, Option.map_some, Option.map_none, cond_true, cond_false, Sx.imp_true, Sx.imp_false, implies_true, Int.reduceEq, Int.reduceNe, Int.reduceLE, Int.reduceLT, decide_true, decide_false, List.zipIdx_cons, List.zipIdx_nil, or_false, false_or, forall_eq_or_imp, forall_eq, ne_eq, reduceCtorEq, not_false_eq_true, Bool.false_eq_true, Bool.true_eq_false, Bool.not_true, Bool.not_false, notInt, numB, tabB, ↓vyB, ↓opY, roA, liveA, lvB, frz, frz1, true_or, Array.reduceGetElem?, upG, up, nth, lay, rcB, rnm, rnmL, wrB, pcB]
  refine codeY_range [] n (fun i => .int .i64 (A i)) (fun _ => trivial) (by simp [roA, liveA, lookH, Chunk.live, Chunk.wr]) (by simp) (fun ρ w X hk _ => ?_) (fun i g h' => g = .run i ∧ i ≤ n ∧ h' = [.cells false [.v (.func (.func f2) #[] ⟨lb2⟩)], .cells false [.v (.func (.func f) #[] ⟨lb⟩)], .cells true [.v (.func (.yield l) #[] #[])]]) (fun i g e h' => e = .ret ∧ endsG n g) ?_ ?_ ?_ ?_
  · exact hk.1.elim fun B hk => ⟨f, lb, B, rfl, hk.2, fun b hb => .inl (hk.1 b hb)⟩
  · exact ⟨rfl, by omega, by simp [frz, inL]⟩
  · rintro i g h' hi ⟨rfl, hin, rfl⟩
    refine codeY_of_vc (pl := pl78) tabOk follows_mixed (by kernel_rfl) ?_
    simp -implicitDefEqProofs (maxSteps := 1000000) (disch := omega) only [↓vcB, ↓gd, ↓opP, ↓qv, ↓ef, ↓bslS, ↓stS, ↓mkS, ↓rangeS, ↓nextS, ↓entryS, ↓delS, ↓mupS, ↓appS, ↓s2bS, ↓resS, evB, Sx.look, slot, ↓lkL, putS, putO, argsL, ↓reduceIte, ofV, of1, lookH, putH, List.length_cons, List.length_nil, List.length_append, List.replicate, List.append, List.cons_append, List.nil_append, List.append_assoc, List.map_cons, List.map_nil, convS, fldA, nthT, idxA, idxS, fldS, oslN, bnd, slS, unS, valI, lenS, lookS, takeC, psB, asRow, csB, Int.toNat_natCast, Int.le_refl, and_self, rdF, Ent.row, ldS, sz, szL, wrF, bldF, plT, bldS, srcS, nilS, nilEq, mapC, binH, binS2, structS, eqL, eqF, binS, arrS, isI, tupS, stor, storL, Value.oneCell', minS, maxS, capS, true_and, and_true, Nat.reduceAdd, Nat.reduceSub, Nat.reduceMul, Nat.reduceLT, Nat.reduceLeDiff, Nat.reduceEqDiff, Nat.reduceBEq, Int.reduceToNat, Int.reduceNeg, Nat.zero_add, Nat.add_zero, Nat.sub_self, Nat.sub_zero, Nat.zero_mul, Nat.mul_one, Nat.zero_le, if_true, if_false, reduceIte, stays, inL, same1, qn, ldN, convN, lenN, List.mem_cons, List.not_mem_nil, Option.map_some, Option.map_none, cond_true, cond_false, Sx.imp_true, Sx.imp_false, implies_true, Int.reduceEq, Int.reduceNe, Int.reduceLE, Int.reduceLT, decide_true, decide_false, List.zipIdx_cons, List.zipIdx_nil, or_false, false_or, forall_eq_or_imp, forall_eq, ne_eq, reduceCtorEq, not_false_eq_true, Bool.false_eq_true, Bool.true_eq_false, Bool.not_true, Bool.not_false, notInt, numB, tabB, ↓vyB, ↓opY, roA, liveA, lvB, frz, frz1, true_or, Array.reduceGetElem?, upG, up, nth, lay, rcB, rnm, rnmL, wrB, pcB]
    refine codeY_of_vc (pl := pl78) tabOk follows_mixed (by kernel_rfl) ?_
    simp -implicitDefEqProofs (maxSteps := 1000000) (disch := omega) only [↓vcB, ↓gd, ↓opP, ↓qv, ↓ef, ↓bslS, ↓stS, ↓mkS, ↓rangeS, ↓nextS, ↓entryS, ↓delS, ↓mupS, ↓appS, ↓s2bS, ↓resS, evB, Sx.look, slot, ↓lkL, putS, putO, argsL, ↓reduceIte, ofV, of1, lookH, putH, List.length_cons, List.length_nil, List.length_append, List.replicate, List.append, List.cons_append, List.nil_append, List.append_assoc, List.map_cons, List.map_nil, convS, fldA, nthT, idxA, idxS, fldS, oslN, bnd, slS, unS, valI, lenS, lookS, takeC, psB, asRow, csB, Int.toNat_natCast, Int.le_refl, and_self, rdF, Ent.row, ldS, sz, szL, wrF, bldF, plT, bldS, srcS, nilS, nilEq, mapC, binH, binS2, structS, eqL, eqF, binS, arrS, isI, tupS, stor, storL, Value.oneCell', minS, maxS, capS, true_and, and_true, Nat.reduceAdd, Nat.reduceSub, Nat.reduceMul, Nat.reduceLT, Nat.reduceLeDiff, Nat.reduceEqDiff, Nat.reduceBEq, Int.reduceToNat, Int.reduceNeg, Nat.zero_add, Nat.add_zero, Nat.sub_self, Nat.sub_zero, Nat.zero_mul, Nat.mul_one, Nat.zero_le, if_true, if_false, reduceIte, stays, inL, same1, qn, ldN, convN, lenN, List.mem_cons, List.not_mem_nil, Option.map_some, Option.map_none, cond_true, cond_false, Sx.imp_true, Sx.imp_false, implies_true, Int.reduceEq, Int.reduceNe, Int.reduceLE, Int.reduceLT, decide_true, decide_false, List.zipIdx_cons, List.zipIdx_nil, or_false, false_or, forall_eq_or_imp, forall_eq, ne_eq, reduceCtorEq, not_false_eq_true, Bool.false_eq_true, Bool.true_eq_false, Bool.not_true, Bool.not_false, notInt, numB, tabB, ↓vyB, ↓opY, roA, liveA, lvB, frz, frz1, true_or, Array.reduceGetElem?, upG, up, nth, lay, rcB, rnm, rnmL, wrB, pcB, fxI_1, pl78]
    exact ⟨⟨by omega, fun _ => rfl⟩, intoY_refl ⟨⟨by omega, rfl⟩, by simp [roA, liveA, lookH, frz, frz1, inL, Chunk.live, Chunk.wr]⟩, rfl, intoY_refl ⟨endsG_stop (by omega), by simp [roA, liveA, lookH, frz, frz1, inL, Chunk.live, Chunk.wr]⟩⟩
  · rintro g h' ⟨rfl, hin, rfl⟩
    exact endsG_run rfl
  · rintro i g e h' hi ⟨rfl, he⟩
    exact ⟨rfl, he⟩

/-- Those for which a function holds. -/
theorem gives80 (f : FuncId) (lb : List Value) (f2 : FuncId) (lb2 : List Value) (n : Nat) (A : Nat → Int) (β : Int → Bool) (N : Nat) (hN : N = cntB (fun i => β (A i)) n) (ys : Nat → Int) (hy : ∀ i, i < n → β (A i) = true → ys (cntB (fun i => β (A i)) i) = A i) {ρ : Env} {B : Nat → Prop} {w0 : World} (hB : ∀ b, B b → b < w0.heap.size) (hH : ∀ k c, [Chunk.cells false [.v (.func (.func f2) #[] ⟨lb2⟩)], .cells false [.v (.func (.func f) #[] ⟨lb⟩)]][k]? = some c → Holds ρ w0 k c ∧ (Real ρ k c → B (ρ k).b))
    (hs : Gives Try.prog f lb B n (fun i => .int .i64 (A i)) w0) (hf : Pures B (.func (.func f2) #[] ⟨lb2⟩) (fxB β) w0) : Gives Try.prog 80 (denL ρ [.ptr 0 0, .ptr 1 0]) B N (fun i => .int .i64 (ys i)) w0 := by
  refine gives_of_codeY (P := seqfPr Try.prog f lb n (fun i => .int .i64 (A i)) (.func (.func f2) #[] ⟨lb2⟩) (fxB β) ⟨[.int .i64 0], _, rfl⟩) tabOk Try.func80 (by kernel_rfl) rfl res80 (Nat.le_of_ble_eq_true rfl) (by simp [slot, lkL, fixed, rg, renH, chB, lookH, eqvL, eqv, eqvF, rnmL, rnm, liveN, lvB, goodH, gdB, okL, ok, sz, szL, storL, stor, renT, okT, pcB, Value.oneCell']) (by simp [okL, ok]) (by simp [Chunk.wr]) (fun l => ?_) hB hH
    (fun w hw hb => ⟨⟨B, fun b hb hx => hx.elim id fun h => h.2 hb, hs.later hw hb⟩, B, fun b hb hx => hx.elim id fun h => h.2 hb, hf.later hw hb⟩) (fv := (.func (.func f2) #[] ⟨lb2⟩)) (fx := fxB β) (fun args r har => ⟨fxB_ok har, fun ρ w X hk => hk.2.elim fun B h => ⟨B, h.1, (h.2 args r har).2 ρ⟩⟩)
  refine codeY_of_vc (pl := pl80) tabOk follows_mixed (by kernel_rfl) ?_
  rw [Try.ntmps80]
  simp -implicitDefEqProofs (maxSteps := 1000000) (disch := omega) only [↓vcB, ↓gd, ↓opP, ↓qv, ↓ef, ↓bslS, ↓stS, ↓mkS, ↓rangeS, ↓nextS, ↓entryS, ↓delS, ↓mupS, ↓appS, ↓s2bS, ↓resS, evB, Sx.look, slot, ↓lkL, putS, putO, argsL, ↓reduceIte, ofV, of1, lookH, putH, List.length_cons, List.length_nil, List.length_append, List.replicate, List.append, List.cons_append, List.nil_append, List.append_assoc, List.map_cons, List.map_nil, convS, fldA, nthT, idxA, idxS, fldS, oslN, bnd, slS, unS, valI, lenS, lookS, takeC, psB, asRow, csB, Int.toNat_natCast, Int.le_refl, and_self, rdF, Ent.row, ldS, sz, szL, wrF, bldF, plT, bldS, srcS, nilS, nilEq, mapC, binH, binS2, structS, eqL, eqF, binS, arrS, isI, tupS, stor, storL, Value.oneCell', minS, maxS, capS, true_and, and_true, Nat.reduceAdd, Nat.reduceSub, Nat.reduceMul, Nat.reduceLT, Nat.reduceLeDiff, Nat.reduceEqDiff, Nat.reduceBEq, Int.reduceToNat, Int.reduceNeg, Nat.zero_add, Nat.add_zero, Nat.sub_self, Nat.sub_zero, Nat.zero_mul, Nat.mul_one, Nat.zero_le, if_true, if_false, reduceIte, stays, inL, same1, qn, ldN, convN, lenN, List.mem_cons, List.not_mem_nil, Option.map_some, Option.map_none, cond_true, cond_false, Sx.imp_true, Sx.imp_false, implies_true, Int.reduceEq, Int.reduceNe, Int.reduceLE, Int.reduceLT, decide_true, decide_false, List.zipIdx_cons, List.zipIdx_nil, or_false, false_or, forall_eq_or_imp, forall_eq, ne_eq, reduceCtorEq, not_false_eq_true, Bool.false_eq_true, Bool.true_eq_false, Bool.not_true, Bool.not_false, notInt, numB, tabB, ↓vyB, ↓opY, roA, liveA, lvB, frz, frz1, true_or, Array.reduceGetElem?, upG, up, nth, lay, rcB, rnm, rnmL, wrB, pcB]
  refine callP_weak (c79 f lb _ _ ?_)
  simp -implicitDefEqProofs (maxSteps := 1000000) (disch := omega) only [↓vcB, ↓gd, ↓opP, ↓qv, ↓ef, ↓bslS, ↓stS, ↓mkS, ↓rangeS, ↓nextS, ↓entryS, ↓delS, ↓mupS, ↓appS, ↓s2bS, ↓resS, evB, Sx.look, slot, ↓lkL, putS, putO, argsL, ↓reduceIte, ofV, of1, lookH, putH, List.length_cons, List.length_nil, List.length_append, List.replicate, List.append, List.cons_append, List.nil_append, List.append_assoc, List.map_cons, List.map_nil, convS, fldA, nthT, idxA, idxS, fldS, oslN, bnd, slS, unS, valI, lenS, lookS, takeC, psB, asRow, csB, Int.toNat_natCast, Int.le_refl, and_self, rdF, Ent.row, ldS, sz, szL, wrF, bldF, plT, bldS, srcS, nilS, nilEq, mapC, binH, binS2, structS, eqL, eqF, binS, arrS, isI, tupS, stor, storL, Value.oneCell', minS, maxS, capS, true_and, and_true, Nat.reduceAdd, Nat.reduceSub, Nat.reduceMul, Nat.reduceLT, Nat.reduceLeDiff, Nat.reduceEqDiff, Nat.reduceBEq, Int.reduceToNat, Int.reduceNeg, Nat.zero_add, Nat.add_zero, Nat.sub_self, Nat.sub_zero, Nat.zero_mul, Nat.mul_one, Nat.zero_le, if_true, if_false, reduceIte, stays, inL, same1, qn, ldN, convN, lenN, List.mem_cons, List.not_mem_nil, Option.map_some, Option.map_none, cond_true, cond_false, Sx.imp_true, Sx.imp_false, implies_true, Int.reduceEq, Int.reduceNe, Int.reduceLE, Int.reduceLT, decide_true, decide_false, List.zipIdx_cons, List.zipIdx_nil, or_false, false_or, forall_eq_or_imp, forall_eq, ne_eq, reduceCtorEq, not_false_eq_true, Bool.false_eq_true, Bool.true_eq_false, Bool.not_true, Bool.not_false, notInt, numB, tabB, ↓vyB, ↓opY, roA, liveA, lvB, frz, frz1, true_or, Array.reduceGetElem?, upG, up, nth, lay, rcB, rnm, rnmL, wrB, pcB]
  refine codeY_range [] n (fun i => .int .i64 (A i)) (fun _ => trivial) (by simp [roA, liveA, lookH, Chunk.live, Chunk.wr]) (by simp) (fun ρ w X hk _ => ?_) (fun i g h' => g = .run (cntB (fun i => β (A i)) i) ∧ i ≤ n ∧ h' = [.cells false [.v (.func (.func f2) #[] ⟨lb2⟩)], .cells false [.v (.func (.func f) #[] ⟨lb⟩)], .cells true [.v (.func (.yield l) #[] #[])]]) (fun i g e h' => e = .ret ∧ endsG N g) ?_ ?_ ?_ ?_
  · exact hk.1.elim fun B hk => ⟨f, lb, B, rfl, hk.2, fun b hb => .inl (hk.1 b hb)⟩
  · exact ⟨rfl, by omega, by simp [frz, inL]⟩
  · rintro i g h' hi ⟨rfl, hin, rfl⟩
    refine codeY_of_vc (pl := pl80) tabOk follows_mixed (by kernel_rfl) ?_
    simp -implicitDefEqProofs (maxSteps := 1000000) (disch := omega) only [↓vcB, ↓gd, ↓opP, ↓qv, ↓ef, ↓bslS, ↓stS, ↓mkS, ↓rangeS, ↓nextS, ↓entryS, ↓delS, ↓mupS, ↓appS, ↓s2bS, ↓resS, evB, Sx.look, slot, ↓lkL, putS, putO, argsL, ↓reduceIte, ofV, of1, lookH, putH, List.length_cons, List.length_nil, List.length_append, List.replicate, List.append, List.cons_append, List.nil_append, List.append_assoc, List.map_cons, List.map_nil, convS, fldA, nthT, idxA, idxS, fldS, oslN, bnd, slS, unS, valI, lenS, lookS, takeC, psB, asRow, csB, Int.toNat_natCast, Int.le_refl, and_self, rdF, Ent.row, ldS, sz, szL, wrF, bldF, plT, bldS, srcS, nilS, nilEq, mapC, binH, binS2, structS, eqL, eqF, binS, arrS, isI, tupS, stor, storL, Value.oneCell', minS, maxS, capS, true_and, and_true, Nat.reduceAdd, Nat.reduceSub, Nat.reduceMul, Nat.reduceLT, Nat.reduceLeDiff, Nat.reduceEqDiff, Nat.reduceBEq, Int.reduceToNat, Int.reduceNeg, Nat.zero_add, Nat.add_zero, Nat.sub_self, Nat.sub_zero, Nat.zero_mul, Nat.mul_one, Nat.zero_le, if_true, if_false, reduceIte, stays, inL, same1, qn, ldN, convN, lenN, List.mem_cons, List.not_mem_nil, Option.map_some, Option.map_none, cond_true, cond_false, Sx.imp_true, Sx.imp_false, implies_true, Int.reduceEq, Int.reduceNe, Int.reduceLE, Int.reduceLT, decide_true, decide_false, List.zipIdx_cons, List.zipIdx_nil, or_false, false_or, forall_eq_or_imp, forall_eq, ne_eq, reduceCtorEq, not_false_eq_true, Bool.false_eq_true, Bool.true_eq_false, Bool.not_true, Bool.not_false, notInt, numB, tabB, ↓vyB, ↓opY, roA, liveA, lvB, frz, frz1, true_or, Array.reduceGetElem?, upG, up, nth, lay, rcB, rnm, rnmL, wrB, pcB]
    refine codeY_of_vc (pl := pl80) tabOk follows_mixed (by kernel_rfl) ?_
    cases hb : β (A i) with
    | false =>
      simp -implicitDefEqProofs (maxSteps := 1000000) (disch := omega) only [↓vcB, ↓gd, ↓opP, ↓qv, ↓ef, ↓bslS, ↓stS, ↓mkS, ↓rangeS, ↓nextS, ↓entryS, ↓delS, ↓mupS, ↓appS, ↓s2bS, ↓resS, evB, Sx.look, slot, ↓lkL, putS, putO, argsL, ↓reduceIte, ofV, of1, lookH, putH, List.length_cons, List.length_nil, List.length_append, List.replicate, List.append, List.cons_append, List.nil_append, List.append_assoc, List.map_cons, List.map_nil, convS, fldA, nthT, idxA, idxS, fldS, oslN, bnd, slS, unS, valI, lenS, lookS, takeC, psB, asRow, csB, Int.toNat_natCast, Int.le_refl, and_self, rdF, Ent.row, ldS, sz, szL, wrF, bldF, plT, bldS, srcS, nilS, nilEq, mapC, binH, binS2, structS, eqL, eqF, binS, arrS, isI, tupS, stor, storL, Value.oneCell', minS, maxS, capS, true_and, and_true, Nat.reduceAdd, Nat.reduceSub, Nat.reduceMul, Nat.reduceLT, Nat.reduceLeDiff, Nat.reduceEqDiff, Nat.reduceBEq, Int.reduceToNat, Int.reduceNeg, Nat.zero_add, Nat.add_zero, Nat.sub_self, Nat.sub_zero, Nat.zero_mul, Nat.mul_one, Nat.zero_le, if_true, if_false, reduceIte, stays, inL, same1, qn, ldN, convN, lenN, List.mem_cons, List.not_mem_nil, Option.map_some, Option.map_none, cond_true, cond_false, Sx.imp_true, Sx.imp_false, implies_true, Int.reduceEq, Int.reduceNe, Int.reduceLE, Int.reduceLT, decide_true, decide_false, List.zipIdx_cons, List.zipIdx_nil, or_false, false_or, forall_eq_or_imp, forall_eq, ne_eq, reduceCtorEq, not_false_eq_true, Bool.false_eq_true, Bool.true_eq_false, Bool.not_true, Bool.not_false, notInt, numB, tabB, ↓vyB, ↓opY, roA, liveA, lvB, frz, frz1, true_or, Array.reduceGetElem?, upG, up, nth, lay, rcB, rnm, rnmL, wrB, pcB, fxB_1, hb]
      refine intoY_refl ⟨⟨by rw [cntB_succ]; simp [hb], by omega, rfl⟩, by simp [roA, liveA, lookH, frz, frz1, inL, Chunk.live, Chunk.wr]⟩
    | true =>
      have hlt := cntB_lt (fun i => β (A i)) hi hb
      simp -implicitDefEqProofs (maxSteps := 1000000) (disch := omega) only [↓vcB, ↓gd, ↓opP, ↓qv, ↓ef, ↓bslS, ↓stS, ↓mkS, ↓rangeS, ↓nextS, ↓entryS, ↓delS, ↓mupS, ↓appS, ↓s2bS, ↓resS, evB, Sx.look, slot, ↓lkL, putS, putO, argsL, ↓reduceIte, ofV, of1, lookH, putH, List.length_cons, List.length_nil, List.length_append, List.replicate, List.append, List.cons_append, List.nil_append, List.append_assoc, List.map_cons, List.map_nil, convS, fldA, nthT, idxA, idxS, fldS, oslN, bnd, slS, unS, valI, lenS, lookS, takeC, psB, asRow, csB, Int.toNat_natCast, Int.le_refl, and_self, rdF, Ent.row, ldS, sz, szL, wrF, bldF, plT, bldS, srcS, nilS, nilEq, mapC, binH, binS2, structS, eqL, eqF, binS, arrS, isI, tupS, stor, storL, Value.oneCell', minS, maxS, capS, true_and, and_true, Nat.reduceAdd, Nat.reduceSub, Nat.reduceMul, Nat.reduceLT, Nat.reduceLeDiff, Nat.reduceEqDiff, Nat.reduceBEq, Int.reduceToNat, Int.reduceNeg, Nat.zero_add, Nat.add_zero, Nat.sub_self, Nat.sub_zero, Nat.zero_mul, Nat.mul_one, Nat.zero_le, if_true, if_false, reduceIte, stays, inL, same1, qn, ldN, convN, lenN, List.mem_cons, List.not_mem_nil, Option.map_some, Option.map_none, cond_true, cond_false, Sx.imp_true, Sx.imp_false, implies_true, Int.reduceEq, Int.reduceNe, Int.reduceLE, Int.reduceLT, decide_true, decide_false, List.zipIdx_cons, List.zipIdx_nil, or_false, false_or, forall_eq_or_imp, forall_eq, ne_eq, reduceCtorEq, not_false_eq_true, Bool.false_eq_true, Bool.true_eq_false, Bool.not_true, Bool.not_false, notInt, numB, tabB, ↓vyB, ↓opY, roA, liveA, lvB, frz, frz1, true_or, Array.reduceGetElem?, upG, up, nth, lay, rcB, rnm, rnmL, wrB, pcB, fxB_1, hb]
      exact ⟨⟨by omega, fun _ => by rw [hy i hi hb]; rfl⟩, intoY_refl ⟨⟨by rw [cntB_succ]; simp [hb], by omega, rfl⟩, by simp [roA, liveA, lookH, frz, frz1, inL, Chunk.live, Chunk.wr]⟩, rfl, intoY_refl ⟨endsG_stop (by omega), by simp [roA, liveA, lookH, frz, frz1, inL, Chunk.live, Chunk.wr]⟩⟩
  · rintro g h' ⟨rfl, hin, rfl⟩
    exact endsG_run hN.symm
  · rintro i g e h' hi ⟨rfl, he⟩
    exact ⟨rfl, he⟩
end Go.Proofs.Ytloinbebkhcndaa

set_option linter.all false
set_option maxRecDepth 40000
namespace Go.Proofs.Ytloinbebkhcndaa
open Go Go.Sx

/-- The numbers below one. -/
theorem gives77 (n : Nat) (a : Int) (ha : a ≤ 9223372036854775807) (hn : n = a.toNat) {ρ : Env} {B : Nat → Prop} {w0 : World} (hB : ∀ b, B b → b < w0.heap.size) (hH : ∀ k c, [Chunk.cells false [.int .i64 a]][k]? = some c → Holds ρ w0 k c ∧ (Real ρ k c → B (ρ k).b)) :
    Gives Try.prog 77 (denL ρ [.ptr 0 0]) B n (fun i => .int .i64 (i : Nat)) w0 := by
  refine gives_of_codeY (P := Pr.of Try.prog) tabOk Try.func77 (by kernel_rfl) rfl res77 (Nat.le_of_ble_eq_true rfl) (by simp [slot, lkL, fixed, rg, renH, chB, lookH, eqvL, eqv, eqvF, rnmL, rnm, liveN, lvB, goodH, gdB, okL, ok, sz, szL, storL, stor, renT, okT, pcB]) (by simp [okL, ok]) (by simp [Chunk.wr]) (fun l => ?_) hB hH (fun _ _ _ => trivial) (fv := .nilFunc) (fx := fun _ => none) (nofx _)
  refine codeY_of_vc (pl := np) tabOk follows_mixed (by kernel_rfl) ?_
  rw [Try.ntmps77]
  simp -implicitDefEqProofs (maxSteps := 1000000) (disch := omega) only [↓vcB, ↓gd, ↓opP, ↓qv, ↓ef, ↓bslS, ↓stS, ↓mkS, ↓rangeS, ↓nextS, ↓entryS, ↓delS, ↓mupS, ↓appS, ↓s2bS, ↓resS, evB, Sx.look, slot, ↓lkL, putS, putO, argsL, ↓reduceIte, ofV, of1, lookH, putH, List.length_cons, List.length_nil, List.length_append, List.replicate, List.append, List.cons_append, List.nil_append, List.append_assoc, List.map_cons, List.map_nil, convS, fldA, nthT, idxA, idxS, fldS, oslN, bnd, slS, unS, valI, lenS, lookS, takeC, psB, asRow, csB, Int.toNat_natCast, Int.le_refl, and_self, rdF, Ent.row, ldS, sz, szL, wrF, bldF, plT, bldS, srcS, nilS, nilEq, mapC, binH, binS2, structS, eqL, eqF, binS, arrS, isI, tupS, stor, storL, Value.oneCell', minS, maxS, capS, true_and, and_true, Nat.reduceAdd, Nat.reduceSub, Nat.reduceMul, Nat.reduceLT, Nat.reduceLeDiff, Nat.reduceEqDiff, Nat.reduceBEq, Int.reduceToNat, Int.reduceNeg, Nat.zero_add, Nat.add_zero, Nat.sub_self, Nat.sub_zero, Nat.zero_mul, Nat.mul_one, Nat.zero_le, if_true, if_false, reduceIte, stays, inL, same1, qn, ldN, convN, lenN, List.mem_cons, List.not_mem_nil, Option.map_some, Option.map_none, cond_true, cond_false, Sx.imp_true, Sx.imp_false, implies_true, Int.reduceEq, Int.reduceNe, Int.reduceLE, Int.reduceLT, decide_true, decide_false, List.zipIdx_cons, List.zipIdx_nil, or_false, false_or, forall_eq_or_imp, forall_eq, ne_eq, reduceCtorEq, not_false_eq_true, Bool.false_eq_true, Bool.true_eq_false, Bool.not_true, Bool.not_false, notInt, numB, tabB, ↓vyB, ↓opY, roA, liveA, lvB, frz, frz1, true_or, Array.reduceGetElem?, upG, up, nth, lay, rcB, rnm, rnmL, wrB, pcB]
  refine codeY_loop (pl := np) tabOk follows_mixed (by kernel_rfl) (fun m g t h => ∃ (k : Nat) (j : Nat → Value), k + m = n ∧ g = .run k ∧ t = ⟨13, [(0, .v (.func (.yield l) #[] #[])), (4, .int .i64 a), (5, .int .i64 (k : Nat))], j⟩ ∧ h = [Chunk.cells false [.int .i64 a]]) ?_ ?_
  · intro d
    refine into_mk [some 0] [(0, .v (.func (.yield l) #[] #[])), (4, .int .i64 a), (5, .int .i64 (0 : Nat))] [Chunk.cells false [.int .i64 a]] ?_ ?_ ?_ ?_ ?_ ?_ ?_ ?_
    · simp [slot, lkL, fixed, rg, renH, chEq, lookH, eqvL, eqv, eqvF, rnmL, rnm, liveN, Chunk.live, goodH, Chunk.good, okL, ok, sz, szL, storL, stor, renT, okT]
    · simp [slot, lkL, fixed, rg, renH, chEq, lookH, eqvL, eqv, eqvF, rnmL, rnm, liveN, Chunk.live, goodH, Chunk.good, okL, ok, sz, szL, storL, stor, renT, okT]
    · simp [slot, lkL, fixed, rg, renH, chEq, lookH, eqvL, eqv, eqvF, rnmL, rnm, liveN, Chunk.live, goodH, Chunk.good, okL, ok, sz, szL, storL, stor, renT, okT]
    · simp [slot, lkL, fixed, rg, renH, chEq, lookH, eqvL, eqv, eqvF, rnmL, rnm, liveN, Chunk.live, goodH, Chunk.good, okL, ok, sz, szL, storL, stor, renT, okT]
    · simp [slot, lkL, fixed, rg, renH, chB, lookH, eqvL, eqv, eqvF, rnmL, rnm, liveN, lvB, goodH, gdB, okL, ok, sz, szL, storL, stor, renT, okT, pcB]
    · simp [slot, lkL, fixed, rg, renH, chEq, lookH, eqvL, eqv, eqvF, rnmL, rnm, liveN, Chunk.live, goodH, Chunk.good, okL, ok, sz, szL, storL, stor, renT, okT]
    · simp [slot, lkL, fixed, rg, renH, chEq, lookH, eqvL, eqv, eqvF, rnmL, rnm, liveN, Chunk.live, goodH, Chunk.good, okL, ok, sz, szL, storL, stor, renT, okT]
    · exact fun j => ⟨rfl, n, 0, j, by omega, rfl, rfl, rfl⟩
  · rintro m g t h ⟨k, j, hk, rfl, rfl, rfl⟩
    by_cases hlt : k < n
    · have g0 : decide ((k : Int) < a) = true := decide_eq_true (by omega)
      have a0 : IntKind.i64.wrap ((k : Int) + 1) = ((k + 1 : Nat) : Int) := by rw [wrap64 (by omega) (by omega)]; omega
      simp -implicitDefEqProofs (maxSteps := 1000000) (disch := omega) only [↓vcB, ↓gd, ↓opP, ↓qv, ↓ef, ↓bslS, ↓stS, ↓mkS, ↓rangeS, ↓nextS, ↓entryS, ↓delS, ↓mupS, ↓appS, ↓s2bS, ↓resS, evB, Sx.look, slot, ↓lkL, putS, putO, argsL, ↓reduceIte, ofV, of1, lookH, putH, List.length_cons, List.length_nil, List.length_append, List.replicate, List.append, List.cons_append, List.nil_append, List.append_assoc, List.map_cons, List.map_nil, convS, fldA, nthT, idxA, idxS, fldS, oslN, bnd, slS, unS, valI, lenS, lookS, takeC, psB, asRow, csB, Int.toNat_natCast, Int.le_refl, and_self, rdF, Ent.row, ldS, sz, szL, wrF, bldF, plT, bldS, srcS, nilS, nilEq, mapC, binH, binS2, structS, eqL, eqF, binS, arrS, isI, tupS, stor, storL, Value.oneCell', minS, maxS, capS, true_and, and_true, Nat.reduceAdd, Nat.reduceSub, Nat.reduceMul, Nat.reduceLT, Nat.reduceLeDiff, Nat.reduceEqDiff, Nat.reduceBEq, Int.reduceToNat, Int.reduceNeg, Nat.zero_add, Nat.add_zero, Nat.sub_self, Nat.sub_zero, Nat.zero_mul, Nat.mul_one, Nat.zero_le, if_true, if_false, reduceIte, stays, inL, same1, qn, ldN, convN, lenN, List.mem_cons, List.not_mem_nil, Option.map_some, Option.map_none, cond_true, cond_false, Sx.imp_true, Sx.imp_false, implies_true, Int.reduceEq, Int.reduceNe, Int.reduceLE, Int.reduceLT, decide_true, decide_false, List.zipIdx_cons, List.zipIdx_nil, or_false, false_or, forall_eq_or_imp, forall_eq, ne_eq, reduceCtorEq, not_false_eq_true, Bool.false_eq_true, Bool.true_eq_false, Bool.not_true, Bool.not_false, notInt, numB, tabB, ↓vyB, ↓opY, roA, liveA, lvB, frz, frz1, true_or, Array.reduceGetElem?, upG, up, nth, lay, rcB, rnm, rnmL, wrB, pcB, g0, a0]
      refine ⟨⟨hlt, fun _ => rfl⟩, ?_, endsG_stop (by omega)⟩
      intro d
      refine into_mk [some 0] [(0, .v (.func (.yield l) #[] #[])), (4, .int .i64 a), (5, .int .i64 (k + 1 : Nat))] [Chunk.cells false [.int .i64 a]] ?_ ?_ ?_ ?_ ?_ ?_ ?_ ?_
      · simp [slot, lkL, fixed, rg, renH, chEq, lookH, eqvL, eqv, eqvF, rnmL, rnm, liveN, Chunk.live, goodH, Chunk.good, okL, ok, sz, szL, storL, stor, renT, okT]
      · simp [slot, lkL, fixed, rg, renH, chEq, lookH, eqvL, eqv, eqvF, rnmL, rnm, liveN, Chunk.live, goodH, Chunk.good, okL, ok, sz, szL, storL, stor, renT, okT]
      · simp [slot, lkL, fixed, rg, renH, chEq, lookH, eqvL, eqv, eqvF, rnmL, rnm, liveN, Chunk.live, goodH, Chunk.good, okL, ok, sz, szL, storL, stor, renT, okT]
      · simp [slot, lkL, fixed, rg, renH, chEq, lookH, eqvL, eqv, eqvF, rnmL, rnm, liveN, Chunk.live, goodH, Chunk.good, okL, ok, sz, szL, storL, stor, renT, okT]
      · simp [slot, lkL, fixed, rg, renH, chB, lookH, eqvL, eqv, eqvF, rnmL, rnm, liveN, lvB, goodH, gdB, okL, ok, sz, szL, storL, stor, renT, okT, pcB]
      · simp [slot, lkL, fixed, rg, renH, chEq, lookH, eqvL, eqv, eqvF, rnmL, rnm, liveN, Chunk.live, goodH, Chunk.good, okL, ok, sz, szL, storL, stor, renT, okT]
      · simp [slot, lkL, fixed, rg, renH, chEq, lookH, eqvL, eqv, eqvF, rnmL, rnm, liveN, Chunk.live, goodH, Chunk.good, okL, ok, sz, szL, storL, stor, renT, okT]
      · exact fun j => ⟨rfl, m - 1, by omega, k + 1, j, by omega, rfl, rfl, rfl⟩
    · have hkn : k = n := by omega
      subst k
      have g0 : decide ((n : Int) < a) = false := decide_eq_false (by omega)
      simp -implicitDefEqProofs (maxSteps := 1000000) (disch := omega) only [↓vcB, ↓gd, ↓opP, ↓qv, ↓ef, ↓bslS, ↓stS, ↓mkS, ↓rangeS, ↓nextS, ↓entryS, ↓delS, ↓mupS, ↓appS, ↓s2bS, ↓resS, evB, Sx.look, slot, ↓lkL, putS, putO, argsL, ↓reduceIte, ofV, of1, lookH, putH, List.length_cons, List.length_nil, List.length_append, List.replicate, List.append, List.cons_append, List.nil_append, List.append_assoc, List.map_cons, List.map_nil, convS, fldA, nthT, idxA, idxS, fldS, oslN, bnd, slS, unS, valI, lenS, lookS, takeC, psB, asRow, csB, Int.toNat_natCast, Int.le_refl, and_self, rdF, Ent.row, ldS, sz, szL, wrF, bldF, plT, bldS, srcS, nilS, nilEq, mapC, binH, binS2, structS, eqL, eqF, binS, arrS, isI, tupS, stor, storL, Value.oneCell', minS, maxS, capS, true_and, and_true, Nat.reduceAdd, Nat.reduceSub, Nat.reduceMul, Nat.reduceLT, Nat.reduceLeDiff, Nat.reduceEqDiff, Nat.reduceBEq, Int.reduceToNat, Int.reduceNeg, Nat.zero_add, Nat.add_zero, Nat.sub_self, Nat.sub_zero, Nat.zero_mul, Nat.mul_one, Nat.zero_le, if_true, if_false, reduceIte, stays, inL, same1, qn, ldN, convN, lenN, List.mem_cons, List.not_mem_nil, Option.map_some, Option.map_none, cond_true, cond_false, Sx.imp_true, Sx.imp_false, implies_true, Int.reduceEq, Int.reduceNe, Int.reduceLE, Int.reduceLT, decide_true, decide_false, List.zipIdx_cons, List.zipIdx_nil, or_false, false_or, forall_eq_or_imp, forall_eq, ne_eq, reduceCtorEq, not_false_eq_true, Bool.false_eq_true, Bool.true_eq_false, Bool.not_true, Bool.not_false, notInt, numB, tabB, ↓vyB, ↓opY, roA, liveA, lvB, frz, frz1, true_or, Array.reduceGetElem?, upG, up, nth, lay, rcB, rnm, rnmL, wrB, pcB, g0]
      exact endsG_run rfl

/-- A sequence of numbers, said in a symbolic heap. -/
def SeqL (P : Pr) (qs : List Nat) (h : List Chunk) (sv : SV) (L : List Int) : Prop := SeqS P qs h sv L.length fun i => .int .i64 (L.getD i 0)
theorem caps1 {qs : List Nat} {h : List Chunk} {ρ : Env} {w : World} {X B : Nat → Prop} {k1 : Nat} {w1 : Bool} {s1 s1' : SV} (hH : ∀ k ∈ qs, Holds ρ w k (lookH h k) ∧ (Real ρ k (lookH h k) → (ρ k).b < w.heap.size))
    (h1 : lookH h k1 = .cells w1 [s1]) (m1 : k1 ∈ qs) (hB : ∀ b, B b → ¬ X b ∨ ∃ k ∈ qs, Real ρ k (lookH h k) ∧ (ρ k).b = b) (hBs : ∀ b, B b → b < w.heap.size) (hv1 : ∀ ρ', den ρ' s1' = den ρ s1) :
    ∃ (ρ' : Env) (B' : Nat → Prop), denL ρ' [.ptr 0 0] = denL ρ [.ptr k1 0] ∧ (∀ b, B b → B' b) ∧ (∀ b, B' b → b < w.heap.size) ∧
      (∀ k c, [Chunk.cells false [s1']][k]? = some c → Holds ρ' w k c ∧ (Real ρ' k c → B' (ρ' k).b)) ∧ ∀ b, B' b → ¬ X b ∨ ∃ k ∈ qs, Real ρ k (lookH h k) ∧ (ρ k).b = b := by
  have q1 := hH k1 m1
  have r1 : Real ρ k1 (lookH h k1) := by rw [h1] at q1 ⊢; exact ⟨rfl, q1.1.1⟩
  refine ⟨fun _ => ρ k1, fun b => B b ∨ b = (ρ k1).b, rfl, fun b hb => .inl hb, ?_, ?_, ?_⟩
  · rintro b (hb | rfl)
    · exact hBs b hb
    · exact q1.2 r1
  · intro k c hc
    rcases k with _ | k
    · cases hc
      rw [h1] at q1
      exact ⟨hold_cell q1.1 rfl (hv1 _), fun _ => .inr rfl⟩
    · simp at hc
  · rintro b (hb | rfl)
    · exact hB b hb
    · exact .inr ⟨k1, m1, r1, rfl⟩
theorem caps2 {qs : List Nat} {h : List Chunk} {ρ : Env} {w : World} {X B : Nat → Prop} {k1 k2 : Nat} {w1 w2 : Bool} {s1 s2 s1' s2' : SV} (hH : ∀ k ∈ qs, Holds ρ w k (lookH h k) ∧ (Real ρ k (lookH h k) → (ρ k).b < w.heap.size))
    (h1 : lookH h k1 = .cells w1 [s1]) (h2 : lookH h k2 = .cells w2 [s2]) (m1 : k1 ∈ qs) (m2 : k2 ∈ qs) (hB : ∀ b, B b → ¬ X b ∨ ∃ k ∈ qs, Real ρ k (lookH h k) ∧ (ρ k).b = b) (hBs : ∀ b, B b → b < w.heap.size)
    (hv1 : ∀ ρ', den ρ' s1' = den ρ s1) (hv2 : ∀ ρ', den ρ' s2' = den ρ s2) :
    ∃ (ρ' : Env) (B' : Nat → Prop), denL ρ' [.ptr 0 0, .ptr 1 0] = denL ρ [.ptr k1 0, .ptr k2 0] ∧ (∀ b, B b → B' b) ∧ (∀ b, B' b → b < w.heap.size) ∧
      (∀ k c, [Chunk.cells false [s1'], .cells false [s2']][k]? = some c → Holds ρ' w k c ∧ (Real ρ' k c → B' (ρ' k).b)) ∧ ∀ b, B' b → ¬ X b ∨ ∃ k ∈ qs, Real ρ k (lookH h k) ∧ (ρ k).b = b := by
  have q1 := hH k1 m1
  have q2 := hH k2 m2
  have r1 : Real ρ k1 (lookH h k1) := by rw [h1] at q1 ⊢; exact ⟨rfl, q1.1.1⟩
  have r2 : Real ρ k2 (lookH h k2) := by rw [h2] at q2 ⊢; exact ⟨rfl, q2.1.1⟩
  refine ⟨fun k => match k with | 0 => ρ k1 | _ => ρ k2, fun b => B b ∨ b = (ρ k1).b ∨ b = (ρ k2).b, rfl, fun b hb => .inl hb, ?_, ?_, ?_⟩
  · rintro b (hb | rfl | rfl)
    · exact hBs b hb
    · exact q1.2 r1
    · exact q2.2 r2
  · intro k c hc
    rcases k with _ | _ | k
    · cases hc
      rw [h1] at q1
      exact ⟨hold_cell q1.1 rfl (hv1 _), fun _ => .inr (.inl rfl)⟩
    · cases hc
      rw [h2] at q2
      exact ⟨hold_cell q2.1 rfl (hv2 _), fun _ => .inr (.inr rfl)⟩
    · simp at hc
  · rintro b (hb | rfl | rfl)
    · exact hB b hb
    · exact .inr ⟨k1, m1, r1, rfl⟩
    · exact .inr ⟨k2, m2, r2, rfl⟩
section
variable {P : Pr} (hP : P.p = Try.prog) {qs : List Nat} {h : List Chunk} {sv : SV} {L : List Int} {k1 k2 : Nat} {w1 w2 : Bool}
include hP
theorem SeqL.take (hs : SeqL P qs h sv L) {a : Int} (ha : -9223372036854775808 ≤ a ∧ a ≤ 9223372036854775807) (h1 : lookH h k1 = .cells w1 [.int .i64 a]) (h2 : lookH h k2 = .cells w2 [sv]) (m1 : k1 ∈ qs) (m2 : k2 ∈ qs) :
    SeqL P qs h (.fn (.func 81) [] [.ptr k1 0, .ptr k2 0]) (L.take a.toNat) := by
  intro ρ w X hk hH
  obtain ⟨f, lb, B, hd, hg, hB⟩ := hs ρ w X hk hH
  obtain ⟨ρ', B', e1, e2, e3, e4, e5⟩ := caps2 hH h1 h2 m1 m2 hB hg.1 (s1' := .int .i64 a) (s2' := .v (.func (.func f) #[] ⟨lb⟩)) (fun _ => rfl) (fun _ => hd.symm)
  rw [hP] at hg ⊢
  refine ⟨81, denL ρ [.ptr k1 0, .ptr k2 0], B', rfl, ?_, e5⟩
  rw [← e1]
  exact (gives81 f lb L.length (fun i => L.getD i 0) a ha (min L.length a.toNat) rfl e3 e4 (hg.wider e2 e3)).cong (by simp [Nat.min_comm]) fun i hi => by
    rw [List.getD_eq_getElem?_getD, List.getD_eq_getElem?_getD, List.getElem?_take_of_lt (by omega)]
theorem SeqL.drop (hs : SeqL P qs h sv L) {a : Int} (ha : -9223372036854775808 ≤ a ∧ a ≤ 9223372036854775807) (h1 : lookH h k1 = .cells w1 [.int .i64 a]) (h2 : lookH h k2 = .cells w2 [sv]) (m1 : k1 ∈ qs) (m2 : k2 ∈ qs) :
    SeqL P qs h (.fn (.func 82) [] [.ptr k1 0, .ptr k2 0]) (L.drop a.toNat) := by
  intro ρ w X hk hH
  obtain ⟨f, lb, B, hd, hg, hB⟩ := hs ρ w X hk hH
  obtain ⟨ρ', B', e1, e2, e3, e4, e5⟩ := caps2 hH h1 h2 m1 m2 hB hg.1 (s1' := .int .i64 a) (s2' := .v (.func (.func f) #[] ⟨lb⟩)) (fun _ => rfl) (fun _ => hd.symm)
  rw [hP] at hg ⊢
  refine ⟨82, denL ρ [.ptr k1 0, .ptr k2 0], B', rfl, ?_, e5⟩
  rw [← e1]
  exact (gives82 f lb L.length (fun i => L.getD i 0) a ha _ rfl e3 e4 (hg.wider e2 e3)).cong (by simp) fun i hi => by
    rw [List.getD_eq_getElem?_getD, List.getD_eq_getElem?_getD, List.getElem?_drop]
theorem SeqL.map (hs : SeqL P qs h sv L) {sf : SV} {φ : Int → Int} (hf : FunS P qs h sf (fxI φ)) (h1 : lookH h k1 = .cells w1 [sf]) (h2 : lookH h k2 = .cells w2 [sv]) (m1 : k1 ∈ qs) (m2 : k2 ∈ qs) :
    SeqL P qs h (.fn (.func 78) [] [.ptr k1 0, .ptr k2 0]) (L.map φ) := by
  intro ρ w X hk hH
  obtain ⟨f, lb, B, hd, hg, hB⟩ := hs ρ w X hk hH
  obtain ⟨f2, lb2, B2, hd2, hs2, hp2, hB2⟩ := hf ρ w X hk hH
  obtain ⟨ρ', B', e1, e2, e3, e4, e5⟩ := caps2 (B := fun b => B b ∨ B2 b) hH h1 h2 m1 m2 (fun b hb => hb.elim (hB b) (hB2 b)) (fun b hb => hb.elim (hg.1 b) (hs2 b)) (s1' := .v (.func (.func f2) #[] ⟨lb2⟩)) (s2' := .v (.func (.func f) #[] ⟨lb⟩)) (fun _ => hd2.symm) (fun _ => hd.symm)
  rw [hP] at hg hp2 ⊢
  refine ⟨78, denL ρ [.ptr k1 0, .ptr k2 0], B', rfl, ?_, e5⟩
  rw [← e1]
  exact (gives78 f lb f2 lb2 L.length (fun i => L.getD i 0) φ e3 e4 (hg.wider (fun b hb => e2 b (.inl hb)) e3) fun args r har => ⟨(hp2 args r har).1, fun ρ => ((hp2 args r har).2 ρ).wider (fun b hb => e2 b (.inr hb)) e3⟩).cong (by simp) fun i hi => by
    rw [List.getD_eq_getElem?_getD, List.getD_eq_getElem?_getD, List.getElem?_map, List.getElem?_eq_getElem hi]
    rfl
theorem SeqL.keep (hs : SeqL P qs h sv L) {sf : SV} {β : Int → Bool} (hf : FunS P qs h sf (fxB β)) (h1 : lookH h k1 = .cells w1 [sf]) (h2 : lookH h k2 = .cells w2 [sv]) (m1 : k1 ∈ qs) (m2 : k2 ∈ qs) :
    SeqL P qs h (.fn (.func 80) [] [.ptr k1 0, .ptr k2 0]) (L.filter β) := by
  intro ρ w X hk hH
  obtain ⟨f, lb, B, hd, hg, hB⟩ := hs ρ w X hk hH
  obtain ⟨f2, lb2, B2, hd2, hs2, hp2, hB2⟩ := hf ρ w X hk hH
  obtain ⟨ρ', B', e1, e2, e3, e4, e5⟩ := caps2 (B := fun b => B b ∨ B2 b) hH h1 h2 m1 m2 (fun b hb => hb.elim (hB b) (hB2 b)) (fun b hb => hb.elim (hg.1 b) (hs2 b)) (s1' := .v (.func (.func f2) #[] ⟨lb2⟩)) (s2' := .v (.func (.func f) #[] ⟨lb⟩)) (fun _ => hd2.symm) (fun _ => hd.symm)
  rw [hP] at hg hp2 ⊢
  refine ⟨80, denL ρ [.ptr k1 0, .ptr k2 0], B', rfl, ?_, e5⟩
  rw [← e1]
  have key : ∀ i, i ≤ L.length → ((L.take i).filter β).length = cntB (fun i => β (L.getD i 0)) i := by
    intro i
    induction i with
    | zero => intro _; rfl
    | succ i ih =>
      intro hi
      rw [cntB_succ, ← ih (by omega), List.take_add_one, List.filter_append, List.length_append, List.getD_eq_getElem?_getD, List.getElem?_eq_getElem (show i < L.length by omega)]
      cases hb : β L[i] <;> simp [hb]
  have hy : ∀ i, i < L.length → β (L.getD i 0) = true → (L.filter β).getD (cntB (fun i => β (L.getD i 0)) i) 0 = L.getD i 0 := by
    intro i hi hb
    have h3 : L.filter β = (L.take i).filter β ++ (L.drop i).filter β := by rw [← List.filter_append, List.take_append_drop]
    rw [h3, List.getD_eq_getElem?_getD, ← key i (by omega), List.getElem?_append_right (Nat.le_refl _), Nat.sub_self, List.drop_eq_getElem_cons hi, List.filter_cons]
    have h4 : L.getD i 0 = L[i] := by rw [List.getD_eq_getElem?_getD, List.getElem?_eq_getElem hi]; rfl
    rw [h4] at hb ⊢
    rw [if_pos hb]
    rfl
  exact (gives80 f lb f2 lb2 L.length (fun i => L.getD i 0) β _ rfl (fun i => (L.filter β).getD i 0) hy e3 e4 (hg.wider (fun b hb => e2 b (.inl hb)) e3) fun args r har => ⟨(hp2 args r har).1, fun ρ => ((hp2 args r har).2 ρ).wider (fun b hb => e2 b (.inr hb)) e3⟩).cong (by rw [← key _ (Nat.le_refl _), List.take_length]) fun i hi => rfl
theorem SeqL.count {a : Int} (ha : a ≤ 9223372036854775807) (h1 : lookH h k1 = .cells w1 [.int .i64 a]) (m1 : k1 ∈ qs) : SeqL P qs h (.fn (.func 77) [] [.ptr k1 0]) ((List.range a.toNat).map fun i : Nat => (i : Int)) := by
  intro ρ w X hk hH
  obtain ⟨ρ', B', e1, e2, e3, e4, e5⟩ := caps1 (B := fun _ => False) hH h1 m1 (fun b hb => hb.elim) (fun b hb => hb.elim) (s1' := .int .i64 a) (fun _ => rfl)
  rw [hP]
  refine ⟨77, denL ρ [.ptr k1 0], B', rfl, ?_, e5⟩
  rw [← e1]
  exact (gives77 a.toNat a ha rfl e3 e4).cong (by simp) fun i hi => by
    rw [List.getD_eq_getElem?_getD, List.getElem?_map, List.getElem?_range hi]
    rfl
theorem SeqL.vals (n : Nat) (hn : n ≤ 9223372036854775807) (A : Nat → Int) (h1 : lookH h k1 = .cells w1 [.osl k2 0 0 1 n]) (h2 : lookH h k2 = .row w2 n 1 fun i => .int .i64 (A i)) (m1 : k1 ∈ qs) (m2 : k2 ∈ qs) : SeqL P qs h (.fn (.func 100) [] [.ptr k1 0]) ((List.range n).map A) := by
  intro ρ w X hk hH
  have q1 := hH k1 m1
  have q2 := hH k2 m2
  have r1 : Real ρ k1 (lookH h k1) := by rw [h1] at q1 ⊢; exact ⟨rfl, q1.1.1⟩
  rw [hP]
  refine ⟨100, denL ρ [.ptr k1 0], fun b => b = (ρ k1).b ∨ ((ρ k2).nil = false ∧ b = (ρ k2).b), rfl, ?_, ?_⟩
  · have e1 : denL ρ [.ptr k1 0] = denL (fun k => match k with | 0 => ρ k1 | _ => ρ k2) [.ptr 0 0] := rfl
    rw [e1]
    have r2 : (ρ k2).nil = false → Real ρ k2 (lookH h k2) := fun hn => by rw [h2]; exact ⟨rfl, hn⟩
    refine (gives100 n hn A ?_ ?_).cong (by simp) fun i hi => ?_
    · rintro b (rfl | ⟨hn, rfl⟩)
      · exact q1.2 r1
      · exact q2.2 (r2 hn)
    · intro k c hc
      rcases k with _ | _ | k
      · cases hc
        rw [h1] at q1
        refine ⟨hold_cell q1.1 rfl rfl, fun _ => .inl rfl⟩
      · cases hc
        rw [h2] at q2
        refine ⟨?_, fun hR => .inr ⟨hR.2, rfl⟩⟩
        have h3 := frz1_holds q2.1
        exact h3
      · simp at hc
    · rw [List.getD_eq_getElem?_getD, List.getElem?_map, List.getElem?_range hi]
      rfl
  · rintro b (rfl | ⟨hn, rfl⟩)
    · exact .inr ⟨k1, m1, r1, rfl⟩
    · exact .inr ⟨k2, m2, by rw [h2]; exact ⟨rfl, hn⟩, rfl⟩
end
end Go.Proofs.Ytloinbebkhcndaa

set_option linter.all false
set_option maxRecDepth 40000
namespace Go.Proofs.Ytloinbebkhcndaa
open Go Go.Sx
theorem res41 : Try.f41.results.toList = [.tmp 4] := rfl
theorem res28 : Try.f28.results.toList = [.tmp 4] := rfl
theorem res75 : Try.f75.results.toList = [.tmp 2] := rfl
def pl41 : Nat → Plan := fun _ => .nil

def pl28 : Nat → Plan := fun _ => .nil

def pl75 : Nat → Plan := fun _ => .nil

/-- Take, of a sequence. -/
theorem c41 (f : FuncId) (lb : List Value) (a : Int) (h : List Chunk) (K : Tok → SV → List Chunk → Prop) (hK : K .mk (.fn (.func 81) [] [.ptr (h.length + 1) 0, .ptr h.length 0]) (h ++ [.cells true [.v (.func (.func f) #[] ⟨lb⟩)], .cells true [.int .i64 a]])) : callP Try.prog 41 [.v (.func (.func f) #[] ⟨lb⟩), .int .i64 a] h K := by
  refine callP_of_code tabOk Try.func41 (by kernel_rfl) rfl (Nat.le_of_ble_eq_true rfl) (codeP_of_vc (pl := pl41) tabOk follows_mixed (by kernel_rfl) ?_)
  rw [Try.ntmps41]
  simp -implicitDefEqProofs (maxSteps := 1000000) (disch := omega) only [↓vcB, ↓gd, ↓opP, ↓qv, ↓ef, ↓bslS, ↓stS, ↓mkS, ↓rangeS, ↓nextS, ↓entryS, ↓delS, ↓mupS, ↓appS, ↓s2bS, ↓resS, evB, Sx.look, slot, ↓lkL, putS, putO, argsL, ↓reduceIte, ofV, of1, lookH, putH, List.length_cons, List.length_nil, List.length_append, List.replicate, List.append, List.cons_append, List.nil_append, List.append_assoc, List.map_cons, List.map_nil, convS, fldA, nthT, idxA, idxS, fldS, oslN, bnd, slS, unS, valI, lenS, lookS, takeC, psB, asRow, csB, Int.toNat_natCast, Int.le_refl, and_self, rdF, Ent.row, ldS, sz, szL, wrF, bldF, plT, bldS, srcS, nilS, nilEq, mapC, binH, binS2, structS, eqL, eqF, binS, arrS, isI, tupS, stor, storL, Value.oneCell', minS, maxS, capS, true_and, and_true, Nat.reduceAdd, Nat.reduceSub, Nat.reduceMul, Nat.reduceLT, Nat.reduceLeDiff, Nat.reduceEqDiff, Nat.reduceBEq, Int.reduceToNat, Int.reduceNeg, Nat.zero_add, Nat.add_zero, Nat.sub_self, Nat.sub_zero, Nat.zero_mul, Nat.mul_one, Nat.zero_le, if_true, if_false, reduceIte, stays, inL, same1, qn, ldN, convN, lenN, List.mem_cons, List.not_mem_nil, Option.map_some, Option.map_none, cond_true, cond_false, Sx.imp_true, Sx.imp_false, implies_true, Int.reduceEq, Int.reduceNe, Int.reduceLE, Int.reduceLT, decide_true, decide_false, List.zipIdx_cons, List.zipIdx_nil, or_false, false_or, forall_eq_or_imp, forall_eq, ne_eq, reduceCtorEq, not_false_eq_true, Bool.false_eq_true, Bool.true_eq_false, Bool.not_true, Bool.not_false, notInt, numB, tabB, Array.reduceGetElem?, upG, up, nth, lay, rcB, rnm, rnmL, wrB, pcB, res41, Value.oneCell']
  exact intoR_refl (by simp) hK

end Go.Proofs.Ytloinbebkhcndaa

set_option linter.all false
set_option maxRecDepth 40000
namespace Go.Proofs.Ytloinbebkhcndaa
open Go Go.Sx

theorem csz_slice (a : Option Addr) (b c : Nat) : (Value.slice a b c).cells.size = 1 := rfl
/-- Collect, of a sequence that is known. -/
theorem c28k (f : FuncId) (lb : List Value) (L : List Int) (a : Int) (ha : -9223372036854775808 ≤ a ∧ a ≤ 9223372036854775807) (M : List Int) (hM : M = L.take a.toNat) (hlen : M.length ≤ 1000) :
    callP (seqPr Try.prog f lb L.length fun i => .int .i64 (L.getD i 0)) 28 [.v (.func (.func f) #[] ⟨lb⟩), .int .i64 a] [] fun _ v h' => v = .osl 0 0 0 1 M.length ∧ h' = [.row true M.length 1 fun i => .int .i64 (M.getD i 0)] := by
  refine callP_of_codeY (P := seqPr Try.prog f lb L.length fun i => .int .i64 (L.getD i 0)) tabOk Try.func28 (by kernel_rfl) rfl (Nat.le_of_ble_eq_true rfl) (fv := .nilFunc) (fx := fun _ => none) (nofx _) ?_
  refine codeY_of_vc (pl := pl28) tabOk follows_mixed (by kernel_rfl) ?_
  rw [Try.ntmps28]
  simp -implicitDefEqProofs (maxSteps := 1000000) (disch := omega) only [↓vcB, ↓gd, ↓opP, ↓qv, ↓ef, ↓bslS, ↓stS, ↓mkS, ↓rangeS, ↓nextS, ↓entryS, ↓delS, ↓mupS, ↓appS, ↓s2bS, ↓resS, evB, Sx.look, slot, ↓lkL, putS, putO, argsL, ↓reduceIte, ofV, of1, lookH, putH, List.length_cons, List.length_nil, List.length_append, List.replicate, List.append, List.cons_append, List.nil_append, List.append_assoc, List.map_cons, List.map_nil, convS, fldA, nthT, idxA, idxS, fldS, oslN, bnd, slS, unS, valI, lenS, lookS, takeC, psB, asRow, csB, Int.toNat_natCast, Int.le_refl, and_self, rdF, Ent.row, ldS, sz, szL, wrF, bldF, plT, bldS, srcS, nilS, nilEq, mapC, binH, binS2, structS, eqL, eqF, binS, arrS, isI, tupS, stor, storL, Value.oneCell', minS, maxS, capS, true_and, and_true, Nat.reduceAdd, Nat.reduceSub, Nat.reduceMul, Nat.reduceLT, Nat.reduceLeDiff, Nat.reduceEqDiff, Nat.reduceBEq, Int.reduceToNat, Int.reduceNeg, Nat.zero_add, Nat.add_zero, Nat.sub_self, Nat.sub_zero, Nat.zero_mul, Nat.mul_one, Nat.zero_le, if_true, if_false, reduceIte, stays, inL, same1, qn, ldN, convN, lenN, List.mem_cons, List.not_mem_nil, Option.map_some, Option.map_none, cond_true, cond_false, Sx.imp_true, Sx.imp_false, implies_true, Int.reduceEq, Int.reduceNe, Int.reduceLE, Int.reduceLT, decide_true, decide_false, List.zipIdx_cons, List.zipIdx_nil, or_false, false_or, forall_eq_or_imp, forall_eq, ne_eq, reduceCtorEq, not_false_eq_true, Bool.false_eq_true, Bool.true_eq_false, Bool.not_true, Bool.not_false, notInt, numB, tabB, ↓vyB, ↓opY, roA, liveA, lvB, frz, frz1, true_or, Array.reduceGetElem?, upG, up, nth, lay, rcB, rnm, rnmL, wrB, pcB]
  refine callP_weak (c41 f lb _ _ _ ?_)
  simp -implicitDefEqProofs (maxSteps := 1000000) (disch := omega) only [↓vcB, ↓gd, ↓opP, ↓qv, ↓ef, ↓bslS, ↓stS, ↓mkS, ↓rangeS, ↓nextS, ↓entryS, ↓delS, ↓mupS, ↓appS, ↓s2bS, ↓resS, evB, Sx.look, slot, ↓lkL, putS, putO, argsL, ↓reduceIte, ofV, of1, lookH, putH, List.length_cons, List.length_nil, List.length_append, List.replicate, List.append, List.cons_append, List.nil_append, List.append_assoc, List.map_cons, List.map_nil, convS, fldA, nthT, idxA, idxS, fldS, oslN, bnd, slS, unS, valI, lenS, lookS, takeC, psB, asRow, csB, Int.toNat_natCast, Int.le_refl, and_self, rdF, Ent.row, ldS, sz, szL, wrF, bldF, plT, bldS, srcS, nilS, nilEq, mapC, binH, binS2, structS, eqL, eqF, binS, arrS, isI, tupS, stor, storL, Value.oneCell', minS, maxS, capS, true_and, and_true, Nat.reduceAdd, Nat.reduceSub, Nat.reduceMul, Nat.reduceLT, Nat.reduceLeDiff, Nat.reduceEqDiff, Nat.reduceBEq, Int.reduceToNat, Int.reduceNeg, Nat.zero_add, Nat.add_zero, Nat.sub_self, Nat.sub_zero, Nat.zero_mul, Nat.mul_one, Nat.zero_le, if_true, if_false, reduceIte, stays, inL, same1, qn, ldN, convN, lenN, List.mem_cons, List.not_mem_nil, Option.map_some, Option.map_none, cond_true, cond_false, Sx.imp_true, Sx.imp_false, implies_true, Int.reduceEq, Int.reduceNe, Int.reduceLE, Int.reduceLT, decide_true, decide_false, List.zipIdx_cons, List.zipIdx_nil, or_false, false_or, forall_eq_or_imp, forall_eq, ne_eq, reduceCtorEq, not_false_eq_true, Bool.false_eq_true, Bool.true_eq_false, Bool.not_true, Bool.not_false, notInt, numB, tabB, ↓vyB, ↓opY, roA, liveA, lvB, frz, frz1, true_or, Array.reduceGetElem?, upG, up, nth, lay, rcB, rnm, rnmL, wrB, pcB]
  refine codeY_range [1, 2] M.length (fun i => .int .i64 (M.getD i 0)) (fun _ => trivial) (by simp [roA, liveA, lookH, Chunk.live, Chunk.wr]) (by simp [lookH, frz1, Chunk.wr]) (fun ρ w X hk hH => ?_) (fun i g h' => g = .run 0 ∧ ((i = 0 ∧ h' = [.cells true [.v (.slice none 0 0)], .cells false [.v (.func (.func f) #[] ⟨lb⟩)], .cells false [.int .i64 a]]) ∨ (1 ≤ i ∧ h' = [.cells true [.osl 3 0 0 1 i], .cells false [.v (.func (.func f) #[] ⟨lb⟩)], .cells false [.int .i64 a], .row true i 1 fun i => .int .i64 (M.getD i 0)]))) (fun i g e h' => False) ?_ ?_ ?_ ?_
  · subst hM
    exact SeqL.take (P := seqPr Try.prog f lb L.length fun i => .int .i64 (L.getD i 0)) rfl (seqS_known _ _) ha rfl rfl (by simp) (by simp) ρ w X hk (by assumption)
  · exact ⟨rfl, .inl ⟨rfl, by simp [frz, frz1, inL]⟩⟩
  · rintro i g h' hi ⟨rfl, ⟨rfl, rfl⟩ | ⟨h1, rfl⟩⟩
    · refine codeY_of_vc (pl := pl28) tabOk follows_mixed (by kernel_rfl) ?_
      simp -implicitDefEqProofs (maxSteps := 1000000) (disch := omega) only [↓vcB, ↓gd, ↓opP, ↓qv, ↓ef, ↓bslS, ↓stS, ↓mkS, ↓rangeS, ↓nextS, ↓entryS, ↓delS, ↓mupS, ↓appS, ↓s2bS, ↓resS, evB, Sx.look, slot, ↓lkL, putS, putO, argsL, ↓reduceIte, ofV, of1, lookH, putH, List.length_cons, List.length_nil, List.length_append, List.replicate, List.append, List.cons_append, List.nil_append, List.append_assoc, List.map_cons, List.map_nil, convS, fldA, nthT, idxA, idxS, fldS, oslN, bnd, slS, unS, valI, lenS, lookS, takeC, psB, asRow, csB, Int.toNat_natCast, Int.le_refl, and_self, rdF, Ent.row, ldS, sz, szL, wrF, bldF, plT, bldS, srcS, nilS, nilEq, mapC, binH, binS2, structS, eqL, eqF, binS, arrS, isI, tupS, stor, storL, Value.oneCell', minS, maxS, capS, true_and, and_true, Nat.reduceAdd, Nat.reduceSub, Nat.reduceMul, Nat.reduceLT, Nat.reduceLeDiff, Nat.reduceEqDiff, Nat.reduceBEq, Int.reduceToNat, Int.reduceNeg, Nat.zero_add, Nat.add_zero, Nat.sub_self, Nat.sub_zero, Nat.zero_mul, Nat.mul_one, Nat.zero_le, if_true, if_false, reduceIte, stays, inL, same1, qn, ldN, convN, lenN, List.mem_cons, List.not_mem_nil, Option.map_some, Option.map_none, cond_true, cond_false, Sx.imp_true, Sx.imp_false, implies_true, Int.reduceEq, Int.reduceNe, Int.reduceLE, Int.reduceLT, decide_true, decide_false, List.zipIdx_cons, List.zipIdx_nil, or_false, false_or, forall_eq_or_imp, forall_eq, ne_eq, reduceCtorEq, not_false_eq_true, Bool.false_eq_true, Bool.true_eq_false, Bool.not_true, Bool.not_false, notInt, numB, tabB, ↓vyB, ↓opY, roA, liveA, lvB, frz, frz1, true_or, Array.reduceGetElem?, upG, up, nth, lay, rcB, rnm, rnmL, wrB, pcB]
      refine codeY_of_vc (pl := pl28) tabOk follows_mixed (by kernel_rfl) ?_
      simp -implicitDefEqProofs (maxSteps := 1000000) (disch := omega) only [↓vcB, ↓gd, ↓opP, ↓qv, ↓ef, ↓bslS, ↓stS, ↓mkS, ↓rangeS, ↓nextS, ↓entryS, ↓delS, ↓mupS, ↓appS, ↓s2bS, ↓resS, evB, Sx.look, slot, ↓lkL, putS, putO, argsL, ↓reduceIte, ofV, of1, lookH, putH, List.length_cons, List.length_nil, List.length_append, List.replicate, List.append, List.cons_append, List.nil_append, List.append_assoc, List.map_cons, List.map_nil, convS, fldA, nthT, idxA, idxS, fldS, oslN, bnd, slS, unS, valI, lenS, lookS, takeC, psB, asRow, csB, Int.toNat_natCast, Int.le_refl, and_self, rdF, Ent.row, ldS, sz, szL, wrF, bldF, plT, bldS, srcS, nilS, nilEq, mapC, binH, binS2, structS, eqL, eqF, binS, arrS, isI, tupS, stor, storL, Value.oneCell', minS, maxS, capS, true_and, and_true, Nat.reduceAdd, Nat.reduceSub, Nat.reduceMul, Nat.reduceLT, Nat.reduceLeDiff, Nat.reduceEqDiff, Nat.reduceBEq, Int.reduceToNat, Int.reduceNeg, Nat.zero_add, Nat.add_zero, Nat.sub_self, Nat.sub_zero, Nat.zero_mul, Nat.mul_one, Nat.zero_le, if_true, if_false, reduceIte, stays, inL, same1, qn, ldN, convN, lenN, List.mem_cons, List.not_mem_nil, Option.map_some, Option.map_none, cond_true, cond_false, Sx.imp_true, Sx.imp_false, implies_true, Int.reduceEq, Int.reduceNe, Int.reduceLE, Int.reduceLT, decide_true, decide_false, List.zipIdx_cons, List.zipIdx_nil, or_false, false_or, forall_eq_or_imp, forall_eq, ne_eq, reduceCtorEq, not_false_eq_true, Bool.false_eq_true, Bool.true_eq_false, Bool.not_true, Bool.not_false, notInt, numB, tabB, ↓vyB, ↓opY, roA, liveA, lvB, frz, frz1, true_or, Array.reduceGetElem?, upG, up, nth, lay, rcB, rnm, rnmL, wrB, pcB, csz_slice]
      intro d
      refine into_mk [some 0, some 1, some 2, some 4] [] [.cells true [.osl 3 0 0 1 1], .cells false [.v (.func (.func f) #[] ⟨lb⟩)], .cells false [.int .i64 a], .row true 1 1 fun i => .int .i64 (M.getD i 0)] ?_ ?_ ?_ ?_ ?_ ?_ ?_ ?_
      · simp [slot, lkL, fixed, rg, renH, chEq, lookH, eqvL, eqv, eqvF, rnmL, rnm, liveN, Chunk.live, goodH, Chunk.good, okL, ok, sz, szL, storL, stor, renT, okT]
      · simp [slot, lkL, fixed, rg, renH, chEq, lookH, eqvL, eqv, eqvF, rnmL, rnm, liveN, Chunk.live, goodH, Chunk.good, okL, ok, sz, szL, storL, stor, renT, okT]
      · simp [slot, lkL, fixed, rg, renH, chEq, lookH, eqvL, eqv, eqvF, rnmL, rnm, liveN, Chunk.live, goodH, Chunk.good, okL, ok, sz, szL, storL, stor, renT, okT, Sx.look]
      · simp [slot, lkL, fixed, rg, renH, chEq, lookH, eqvL, eqv, eqvF, rnmL, rnm, liveN, Chunk.live, goodH, Chunk.good, okL, ok, sz, szL, storL, stor, renT, okT]
      · simp [slot, lkL, fixed, rg, renH, chEq, lookH, eqvL, eqv, eqvF, rnmL, rnm, liveN, Chunk.live, goodH, Chunk.good, okL, ok, sz, szL, storL, stor, renT, okT, Value.oneCell']
      · simp [slot, lkL, fixed, rg, renH, chEq, lookH, eqvL, eqv, eqvF, rnmL, rnm, liveN, Chunk.live, goodH, Chunk.good, okL, ok, sz, szL, storL, stor, renT, okT]
      · simp [slot, lkL, fixed, rg, renH, chEq, lookH, eqvL, eqv, eqvF, rnmL, rnm, liveN, Chunk.live, goodH, Chunk.good, okL, ok, sz, szL, storL, stor, renT, okT]
      · exact fun j => ⟨rfl, .inr rfl, by simp [roA, liveA, lookH, frz, frz1, inL, Chunk.live, Chunk.wr]⟩
    · refine codeY_of_vc (pl := pl28) tabOk follows_mixed (by kernel_rfl) ?_
      simp -implicitDefEqProofs (maxSteps := 1000000) (disch := omega) only [↓vcB, ↓gd, ↓opP, ↓qv, ↓ef, ↓bslS, ↓stS, ↓mkS, ↓rangeS, ↓nextS, ↓entryS, ↓delS, ↓mupS, ↓appS, ↓s2bS, ↓resS, evB, Sx.look, slot, ↓lkL, putS, putO, argsL, ↓reduceIte, ofV, of1, lookH, putH, List.length_cons, List.length_nil, List.length_append, List.replicate, List.append, List.cons_append, List.nil_append, List.append_assoc, List.map_cons, List.map_nil, convS, fldA, nthT, idxA, idxS, fldS, oslN, bnd, slS, unS, valI, lenS, lookS, takeC, psB, asRow, csB, Int.toNat_natCast, Int.le_refl, and_self, rdF, Ent.row, ldS, sz, szL, wrF, bldF, plT, bldS, srcS, nilS, nilEq, mapC, binH, binS2, structS, eqL, eqF, binS, arrS, isI, tupS, stor, storL, Value.oneCell', minS, maxS, capS, true_and, and_true, Nat.reduceAdd, Nat.reduceSub, Nat.reduceMul, Nat.reduceLT, Nat.reduceLeDiff, Nat.reduceEqDiff, Nat.reduceBEq, Int.reduceToNat, Int.reduceNeg, Nat.zero_add, Nat.add_zero, Nat.sub_self, Nat.sub_zero, Nat.zero_mul, Nat.mul_one, Nat.zero_le, if_true, if_false, reduceIte, stays, inL, same1, qn, ldN, convN, lenN, List.mem_cons, List.not_mem_nil, Option.map_some, Option.map_none, cond_true, cond_false, Sx.imp_true, Sx.imp_false, implies_true, Int.reduceEq, Int.reduceNe, Int.reduceLE, Int.reduceLT, decide_true, decide_false, List.zipIdx_cons, List.zipIdx_nil, or_false, false_or, forall_eq_or_imp, forall_eq, ne_eq, reduceCtorEq, not_false_eq_true, Bool.false_eq_true, Bool.true_eq_false, Bool.not_true, Bool.not_false, notInt, numB, tabB, ↓vyB, ↓opY, roA, liveA, lvB, frz, frz1, true_or, Array.reduceGetElem?, upG, up, nth, lay, rcB, rnm, rnmL, wrB, pcB]
      refine codeY_of_vc (pl := pl28) tabOk follows_mixed (by kernel_rfl) ?_
      simp -implicitDefEqProofs (maxSteps := 1000000) (disch := omega) only [↓vcB, ↓gd, ↓opP, ↓qv, ↓ef, ↓bslS, ↓stS, ↓mkS, ↓rangeS, ↓nextS, ↓entryS, ↓delS, ↓mupS, ↓appS, ↓s2bS, ↓resS, evB, Sx.look, slot, ↓lkL, putS, putO, argsL, ↓reduceIte, ofV, of1, lookH, putH, List.length_cons, List.length_nil, List.length_append, List.replicate, List.append, List.cons_append, List.nil_append, List.append_assoc, List.map_cons, List.map_nil, convS, fldA, nthT, idxA, idxS, fldS, oslN, bnd, slS, unS, valI, lenS, lookS, takeC, psB, asRow, csB, Int.toNat_natCast, Int.le_refl, and_self, rdF, Ent.row, ldS, sz, szL, wrF, bldF, plT, bldS, srcS, nilS, nilEq, mapC, binH, binS2, structS, eqL, eqF, binS, arrS, isI, tupS, stor, storL, Value.oneCell', minS, maxS, capS, true_and, and_true, Nat.reduceAdd, Nat.reduceSub, Nat.reduceMul, Nat.reduceLT, Nat.reduceLeDiff, Nat.reduceEqDiff, Nat.reduceBEq, Int.reduceToNat, Int.reduceNeg, Nat.zero_add, Nat.add_zero, Nat.sub_self, Nat.sub_zero, Nat.zero_mul, Nat.mul_one, Nat.zero_le, if_true, if_false, reduceIte, stays, inL, same1, qn, ldN, convN, lenN, List.mem_cons, List.not_mem_nil, Option.map_some, Option.map_none, cond_true, cond_false, Sx.imp_true, Sx.imp_false, implies_true, Int.reduceEq, Int.reduceNe, Int.reduceLE, Int.reduceLT, decide_true, decide_false, List.zipIdx_cons, List.zipIdx_nil, or_false, false_or, forall_eq_or_imp, forall_eq, ne_eq, reduceCtorEq, not_false_eq_true, Bool.false_eq_true, Bool.true_eq_false, Bool.not_true, Bool.not_false, notInt, numB, tabB, ↓vyB, ↓opY, roA, liveA, lvB, frz, frz1, true_or, Array.reduceGetElem?, upG, up, nth, lay, rcB, rnm, rnmL, wrB, pcB, csz_slice]
      refine ⟨by omega, ?_⟩
      intro d
      refine into_mk [some 0, some 1, some 2, some 5] [] [.cells true [.osl 3 0 0 1 (i + 1)], .cells false [.v (.func (.func f) #[] ⟨lb⟩)], .cells false [.int .i64 a], .row true (i + 1) 1 fun i => .int .i64 (M.getD i 0)] ?_ ?_ ?_ ?_ ?_ ?_ ?_ ?_
      · simp [slot, lkL, fixed, rg, renH, chEq, lookH, eqvL, eqv, eqvF, rnmL, rnm, liveN, Chunk.live, goodH, Chunk.good, okL, ok, sz, szL, storL, stor, renT, okT]
      · simp [slot, lkL, fixed, rg, renH, chEq, lookH, eqvL, eqv, eqvF, rnmL, rnm, liveN, Chunk.live, goodH, Chunk.good, okL, ok, sz, szL, storL, stor, renT, okT]
      · simp [slot, lkL, fixed, rg, renH, chEq, lookH, eqvL, eqv, eqvF, rnmL, rnm, liveN, Chunk.live, goodH, Chunk.good, okL, ok, sz, szL, storL, stor, renT, okT, Sx.look]
        intro k hk
        by_cases h : k < i
        · simp [h, eqv]
        · obtain rfl : k = i := by omega
          simp [Sx.look, eqv]
      · simp [slot, lkL, fixed, rg, renH, chEq, lookH, eqvL, eqv, eqvF, rnmL, rnm, liveN, Chunk.live, goodH, Chunk.good, okL, ok, sz, szL, storL, stor, renT, okT]
      · simp [slot, lkL, fixed, rg, renH, chEq, lookH, eqvL, eqv, eqvF, rnmL, rnm, liveN, Chunk.live, goodH, Chunk.good, okL, ok, sz, szL, storL, stor, renT, okT, Value.oneCell']
      · simp [slot, lkL, fixed, rg, renH, chEq, lookH, eqvL, eqv, eqvF, rnmL, rnm, liveN, Chunk.live, goodH, Chunk.good, okL, ok, sz, szL, storL, stor, renT, okT]
      · simp [slot, lkL, fixed, rg, renH, chEq, lookH, eqvL, eqv, eqvF, rnmL, rnm, liveN, Chunk.live, goodH, Chunk.good, okL, ok, sz, szL, storL, stor, renT, okT]
      · exact fun j => ⟨rfl, .inr rfl, by simp [roA, liveA, lookH, frz, frz1, inL, Chunk.live, Chunk.wr]⟩
  · rintro g h' ⟨rfl, ⟨h0, rfl⟩ | ⟨h1, rfl⟩⟩
    · simp -implicitDefEqProofs (maxSteps := 1000000) (disch := omega) only [↓vcB, ↓gd, ↓opP, ↓qv, ↓ef, ↓bslS, ↓stS, ↓mkS, ↓rangeS, ↓nextS, ↓entryS, ↓delS, ↓mupS, ↓appS, ↓s2bS, ↓resS, evB, Sx.look, slot, ↓lkL, putS, putO, argsL, ↓reduceIte, ofV, of1, lookH, putH, List.length_cons, List.length_nil, List.length_append, List.replicate, List.append, List.cons_append, List.nil_append, List.append_assoc, List.map_cons, List.map_nil, convS, fldA, nthT, idxA, idxS, fldS, oslN, bnd, slS, unS, valI, lenS, lookS, takeC, psB, asRow, csB, Int.toNat_natCast, Int.le_refl, and_self, rdF, Ent.row, ldS, sz, szL, wrF, bldF, plT, bldS, srcS, nilS, nilEq, mapC, binH, binS2, structS, eqL, eqF, binS, arrS, isI, tupS, stor, storL, Value.oneCell', minS, maxS, capS, true_and, and_true, Nat.reduceAdd, Nat.reduceSub, Nat.reduceMul, Nat.reduceLT, Nat.reduceLeDiff, Nat.reduceEqDiff, Nat.reduceBEq, Int.reduceToNat, Int.reduceNeg, Nat.zero_add, Nat.add_zero, Nat.sub_self, Nat.sub_zero, Nat.zero_mul, Nat.mul_one, Nat.zero_le, if_true, if_false, reduceIte, stays, inL, same1, qn, ldN, convN, lenN, List.mem_cons, List.not_mem_nil, Option.map_some, Option.map_none, cond_true, cond_false, Sx.imp_true, Sx.imp_false, implies_true, Int.reduceEq, Int.reduceNe, Int.reduceLE, Int.reduceLT, decide_true, decide_false, List.zipIdx_cons, List.zipIdx_nil, or_false, false_or, forall_eq_or_imp, forall_eq, ne_eq, reduceCtorEq, not_false_eq_true, Bool.false_eq_true, Bool.true_eq_false, Bool.not_true, Bool.not_false, notInt, numB, tabB, ↓vyB, ↓opY, roA, liveA, lvB, frz, frz1, true_or, Array.reduceGetElem?, upG, up, nth, lay, rcB, rnm, rnmL, wrB, pcB, res28]
      refine intoR_nilT [] rfl rfl trivial ⟨by rw [h0], by rw [h0]; rfl⟩
    · simp -implicitDefEqProofs (maxSteps := 1000000) (disch := omega) only [↓vcB, ↓gd, ↓opP, ↓qv, ↓ef, ↓bslS, ↓stS, ↓mkS, ↓rangeS, ↓nextS, ↓entryS, ↓delS, ↓mupS, ↓appS, ↓s2bS, ↓resS, evB, Sx.look, slot, ↓lkL, putS, putO, argsL, ↓reduceIte, ofV, of1, lookH, putH, List.length_cons, List.length_nil, List.length_append, List.replicate, List.append, List.cons_append, List.nil_append, List.append_assoc, List.map_cons, List.map_nil, convS, fldA, nthT, idxA, idxS, fldS, oslN, bnd, slS, unS, valI, lenS, lookS, takeC, psB, asRow, csB, Int.toNat_natCast, Int.le_refl, and_self, rdF, Ent.row, ldS, sz, szL, wrF, bldF, plT, bldS, srcS, nilS, nilEq, mapC, binH, binS2, structS, eqL, eqF, binS, arrS, isI, tupS, stor, storL, Value.oneCell', minS, maxS, capS, true_and, and_true, Nat.reduceAdd, Nat.reduceSub, Nat.reduceMul, Nat.reduceLT, Nat.reduceLeDiff, Nat.reduceEqDiff, Nat.reduceBEq, Int.reduceToNat, Int.reduceNeg, Nat.zero_add, Nat.add_zero, Nat.sub_self, Nat.sub_zero, Nat.zero_mul, Nat.mul_one, Nat.zero_le, if_true, if_false, reduceIte, stays, inL, same1, qn, ldN, convN, lenN, List.mem_cons, List.not_mem_nil, Option.map_some, Option.map_none, cond_true, cond_false, Sx.imp_true, Sx.imp_false, implies_true, Int.reduceEq, Int.reduceNe, Int.reduceLE, Int.reduceLT, decide_true, decide_false, List.zipIdx_cons, List.zipIdx_nil, or_false, false_or, forall_eq_or_imp, forall_eq, ne_eq, reduceCtorEq, not_false_eq_true, Bool.false_eq_true, Bool.true_eq_false, Bool.not_true, Bool.not_false, notInt, numB, tabB, ↓vyB, ↓opY, roA, liveA, lvB, frz, frz1, true_or, Array.reduceGetElem?, upG, up, nth, lay, rcB, rnm, rnmL, wrB, pcB, res28]
      refine intoR_mk [some 3] (.osl 0 0 0 1 M.length) [.row true M.length 1 fun i => .int .i64 (M.getD i 0)] ?_ ?_ ?_ ?_ ?_ ?_ ?_ ⟨rfl, rfl⟩
      all_goals simp [slot, lkL, fixed, rg, renH, chEq, lookH, eqvL, eqv, eqvF, rnmL, rnm, liveN, Chunk.live, goodH, Chunk.good, okL, ok, sz, szL, storL, stor, renT, okT]
  · rintro i g e h' hi he
    exact he.elim
end Go.Proofs.Ytloinbebkhcndaa

set_option linter.all false
set_option maxRecDepth 40000
namespace Go.Proofs.Ytloinbebkhcndaa
open Go Go.Sx
theorem res27 : Try.f27.results.toList = [.tmp 4] := rfl
def pl27 : Nat → Plan
  | 6 => (.q 0 (.q 1 (.q 2 (.q 3 (.q 4 (.q 5 (.q 6 (.q 7 (.q 8 .nil)))))))))
  | _ => .nil

section
variable {P : Pr} (hP : P.p = Try.prog)
include hP
/-- Collect, of a sequence in a heap. -/
theorem c28 {qs : List Nat} {h : List Chunk} {sv : SV} {L : List Int} (hs : SeqL P qs h sv L) (a : Int) (ha : -9223372036854775808 ≤ a ∧ a ≤ 9223372036854775807) (M : List Int) (hM : M = L.take a.toNat) (hlen : M.length ≤ 1000) (K : Tok → SV → List Chunk → Prop)
    (hK : K .mk (.osl h.length 0 0 1 M.length) (h ++ [.row true M.length 1 fun i => .int .i64 (M.getD i 0)])) : callP P 28 [sv, .int .i64 a] h K := by
  refine callP_open (KL := fun _ v h' => v = .osl 0 0 0 1 M.length ∧ h' = [.row true M.length 1 fun i => .int .i64 (M.getD i 0)]) (fun C ρ w hk hMo => ?_) ?_
  · obtain ⟨f, lb, B, hd, hg, _⟩ := hs ρ w (fun b => C.X b ∨ C.w0.heap.size ≤ b) (P.keep hk hMo.keep fun b hb => hb) fun k hkq => ⟨lookH_holds hMo k, fun hR => hMo.size k _ (lookH_some rfl (by intro e; rw [e] at hR; cases hR.1)) hR⟩
    rw [hP] at hg
    have hd' : ∀ ρ', denL ρ [sv, .int .i64 a] = denL ρ' [.v (.func (.func f) #[] ⟨lb⟩), .int .i64 a] := fun ρ' => by simp only [denL, hd, den]
    exact ⟨seqPr Try.prog f lb L.length fun i => .int .i64 (L.getD i 0), [.v (.func (.func f) #[] ⟨lb⟩), .int .i64 a], hP.symm, ⟨B, fun _ _ h => h, hg⟩, ⟨trivial, trivial, trivial⟩, hd', c28k f lb L a ha M hM hlen⟩
  · rintro v hl' ⟨rfl, rfl⟩
    refine ⟨by simp [Chunk.wr], ?_⟩
    have e1 : rnm (upG [] h.length) (.osl 0 0 0 1 M.length) = .osl h.length 0 0 1 M.length := by simp [rnm, upG, up, nth]
    have e2 : [Chunk.row true M.length 1 fun i => SV.int .i64 (M.getD i 0)].map (rnmC (upG [] h.length)) = [Chunk.row true M.length 1 fun i => SV.int .i64 (M.getD i 0)] := by simp [rnmC, rnm]
    rw [e1, e2]
    exact hK
end

theorem c75 (h : List Chunk) (k n : Nat) (K : Tok → SV → List Chunk → Prop) (hK : K .mk (.fn (.func 100) [] [.ptr h.length 0]) (h ++ [.cells true [.osl k 0 0 1 n]])) : callP Try.prog 75 [.osl k 0 0 1 n] h K := by
  refine callP_of_code tabOk Try.func75 (by kernel_rfl) rfl (Nat.le_of_ble_eq_true rfl) (codeP_of_vc (pl := pl75) tabOk follows_mixed (by kernel_rfl) ?_)
  rw [Try.ntmps75]
  simp -implicitDefEqProofs (maxSteps := 1000000) (disch := omega) only [↓vcB, ↓gd, ↓opP, ↓qv, ↓ef, ↓bslS, ↓stS, ↓mkS, ↓rangeS, ↓nextS, ↓entryS, ↓delS, ↓mupS, ↓appS, ↓s2bS, ↓resS, evB, Sx.look, slot, ↓lkL, putS, putO, argsL, ↓reduceIte, ofV, of1, lookH, putH, List.length_cons, List.length_nil, List.length_append, List.replicate, List.append, List.cons_append, List.nil_append, List.append_assoc, List.map_cons, List.map_nil, convS, fldA, nthT, idxA, idxS, fldS, oslN, bnd, slS, unS, valI, lenS, lookS, takeC, psB, asRow, csB, Int.toNat_natCast, Int.le_refl, and_self, rdF, Ent.row, ldS, sz, szL, wrF, bldF, plT, bldS, srcS, nilS, nilEq, mapC, binH, binS2, structS, eqL, eqF, binS, arrS, isI, tupS, stor, storL, Value.oneCell', minS, maxS, capS, true_and, and_true, Nat.reduceAdd, Nat.reduceSub, Nat.reduceMul, Nat.reduceLT, Nat.reduceLeDiff, Nat.reduceEqDiff, Nat.reduceBEq, Int.reduceToNat, Int.reduceNeg, Nat.zero_add, Nat.add_zero, Nat.sub_self, Nat.sub_zero, Nat.zero_mul, Nat.mul_one, Nat.zero_le, if_true, if_false, reduceIte, stays, inL, same1, qn, ldN, convN, lenN, List.mem_cons, List.not_mem_nil, Option.map_some, Option.map_none, cond_true, cond_false, Sx.imp_true, Sx.imp_false, implies_true, Int.reduceEq, Int.reduceNe, Int.reduceLE, Int.reduceLT, decide_true, decide_false, List.zipIdx_cons, List.zipIdx_nil, or_false, false_or, forall_eq_or_imp, forall_eq, ne_eq, reduceCtorEq, not_false_eq_true, Bool.false_eq_true, Bool.true_eq_false, Bool.not_true, Bool.not_false, notInt, numB, tabB, Array.reduceGetElem?, upG, up, nth, lay, rcB, rnm, rnmL, wrB, pcB, res75, Value.oneCell']
  exact intoR_refl (by simp) hK
/-- Are two rows of numbers the same? -/
def sameN (n m : Nat) (A B : Nat → Int) : Bool := decide (n = m ∧ ∀ i, i < n → A i = B i)
theorem c27k (n m q p : Nat) (hn : n ≤ q) (hm : m ≤ p) (hq : q ≤ 9223372036854775807) (hp : p ≤ 9223372036854775807) (A B : Nat → Int) (K : Tok → SV → List Chunk → Prop) (hK : K .mk (.bool (sameN n m A B)) [.row false q 1 fun i => .int .i64 (A i), .row false p 1 fun i => .int .i64 (B i)]) :
    callP Try.prog 27 [.osl 0 0 0 1 n, .osl 1 0 0 1 m] [.row false q 1 fun i => .int .i64 (A i), .row false p 1 fun i => .int .i64 (B i)] K := by
  by_cases hnm : n = m
  · subst hnm
    have g0 : ((n : Int) != n) = false := bne_self_eq_false _
    refine callP_of_code tabOk Try.func27 (by kernel_rfl) rfl (Nat.le_of_ble_eq_true rfl) (codeP_of_vc (pl := pl27) tabOk follows_mixed (by kernel_rfl) ?_)
    rw [Try.ntmps27]
    simp -implicitDefEqProofs (maxSteps := 1000000) (disch := omega) only [↓vcB, ↓gd, ↓opP, ↓qv, ↓ef, ↓bslS, ↓stS, ↓mkS, ↓rangeS, ↓nextS, ↓entryS, ↓delS, ↓mupS, ↓appS, ↓s2bS, ↓resS, evB, Sx.look, slot, ↓lkL, putS, putO, argsL, ↓reduceIte, ofV, of1, lookH, putH, List.length_cons, List.length_nil, List.length_append, List.replicate, List.append, List.cons_append, List.nil_append, List.append_assoc, List.map_cons, List.map_nil, convS, fldA, nthT, idxA, idxS, fldS, oslN, bnd, slS, unS, valI, lenS, lookS, takeC, psB, asRow, csB, Int.toNat_natCast, Int.le_refl, and_self, rdF, Ent.row, ldS, sz, szL, wrF, bldF, plT, bldS, srcS, nilS, nilEq, mapC, binH, binS2, structS, eqL, eqF, binS, arrS, isI, tupS, stor, storL, Value.oneCell', minS, maxS, capS, true_and, and_true, Nat.reduceAdd, Nat.reduceSub, Nat.reduceMul, Nat.reduceLT, Nat.reduceLeDiff, Nat.reduceEqDiff, Nat.reduceBEq, Int.reduceToNat, Int.reduceNeg, Nat.zero_add, Nat.add_zero, Nat.sub_self, Nat.sub_zero, Nat.zero_mul, Nat.mul_one, Nat.zero_le, if_true, if_false, reduceIte, stays, inL, same1, qn, ldN, convN, lenN, List.mem_cons, List.not_mem_nil, Option.map_some, Option.map_none, cond_true, cond_false, Sx.imp_true, Sx.imp_false, implies_true, Int.reduceEq, Int.reduceNe, Int.reduceLE, Int.reduceLT, decide_true, decide_false, List.zipIdx_cons, List.zipIdx_nil, or_false, false_or, forall_eq_or_imp, forall_eq, ne_eq, reduceCtorEq, not_false_eq_true, Bool.false_eq_true, Bool.true_eq_false, Bool.not_true, Bool.not_false, notInt, numB, tabB, Array.reduceGetElem?, upG, up, nth, lay, rcB, rnm, rnmL, wrB, pcB, res27, g0, res27]
    refine codeP_loop (pl := pl27) tabOk follows_mixed (by kernel_rfl) (fun x st => ∃ (k : Nat) (j : Nat → Value), k + x = n ∧ (∀ i, i < k → A i = B i) ∧ st = ⟨⟨26, [(0, .osl 0 0 0 1 n), (1, .osl 1 0 0 1 n), (11, .osl 0 0 0 1 n), (12, .int .i64 (n : Nat)), (13, .int .i64 (k : Nat))], j⟩, [.row false q 1 fun i => .int .i64 (A i), .row false p 1 fun i => .int .i64 (B i)], []⟩) ?_ ?_
    · refine into_mk [some 0, some 1] [(0, .osl 0 0 0 1 n), (1, .osl 1 0 0 1 n), (11, .osl 0 0 0 1 n), (12, .int .i64 (n : Nat)), (13, .int .i64 (0 : Nat))] [.row false q 1 fun i => .int .i64 (A i), .row false p 1 fun i => .int .i64 (B i)] ?_ ?_ ?_ ?_ ?_ ?_ ?_ ?_
      iterate 7 (· simp [slot, lkL, fixed, rg, renH, chEq, lookH, eqvL, eqv, eqvF, rnmL, rnm, liveN, Chunk.live, goodH, Chunk.good, okL, ok, sz, szL, storL, stor, renT, okT])
      exact fun j => ⟨n, 0, j, by omega, fun i hi => absurd hi (by omega), rfl⟩
    · rintro x st ⟨k, j, hk, hall, rfl⟩
      by_cases hlt : k < n
      · have g1 : decide ((k : Int) < n) = true := decide_eq_true (by omega)
        have a1 : IntKind.i64.wrap ((k : Int) + 1) = ((k + 1 : Nat) : Int) := by rw [wrap64 (by omega) (by omega)]; omega
        by_cases he : A k = B k
        · have g2 : (A k != B k) = false := by rw [he]; exact bne_self_eq_false _
          simp -implicitDefEqProofs (maxSteps := 1000000) (disch := omega) only [↓vcB, ↓gd, ↓opP, ↓qv, ↓ef, ↓bslS, ↓stS, ↓mkS, ↓rangeS, ↓nextS, ↓entryS, ↓delS, ↓mupS, ↓appS, ↓s2bS, ↓resS, evB, Sx.look, slot, ↓lkL, putS, putO, argsL, ↓reduceIte, ofV, of1, lookH, putH, List.length_cons, List.length_nil, List.length_append, List.replicate, List.append, List.cons_append, List.nil_append, List.append_assoc, List.map_cons, List.map_nil, convS, fldA, nthT, idxA, idxS, fldS, oslN, bnd, slS, unS, valI, lenS, lookS, takeC, psB, asRow, csB, Int.toNat_natCast, Int.le_refl, and_self, rdF, Ent.row, ldS, sz, szL, wrF, bldF, plT, bldS, srcS, nilS, nilEq, mapC, binH, binS2, structS, eqL, eqF, binS, arrS, isI, tupS, stor, storL, Value.oneCell', minS, maxS, capS, true_and, and_true, Nat.reduceAdd, Nat.reduceSub, Nat.reduceMul, Nat.reduceLT, Nat.reduceLeDiff, Nat.reduceEqDiff, Nat.reduceBEq, Int.reduceToNat, Int.reduceNeg, Nat.zero_add, Nat.add_zero, Nat.sub_self, Nat.sub_zero, Nat.zero_mul, Nat.mul_one, Nat.zero_le, if_true, if_false, reduceIte, stays, inL, same1, qn, ldN, convN, lenN, List.mem_cons, List.not_mem_nil, Option.map_some, Option.map_none, cond_true, cond_false, Sx.imp_true, Sx.imp_false, implies_true, Int.reduceEq, Int.reduceNe, Int.reduceLE, Int.reduceLT, decide_true, decide_false, List.zipIdx_cons, List.zipIdx_nil, or_false, false_or, forall_eq_or_imp, forall_eq, ne_eq, reduceCtorEq, not_false_eq_true, Bool.false_eq_true, Bool.true_eq_false, Bool.not_true, Bool.not_false, notInt, numB, tabB, Array.reduceGetElem?, upG, up, nth, lay, rcB, rnm, rnmL, wrB, pcB, g1, g2, a1, pl27]
          repeat (refine ⟨⟨by omega, by omega, by omega⟩, by omega, ?_⟩)
          refine into_mk [some 0, some 1] [(0, .osl 0 0 0 1 n), (1, .osl 1 0 0 1 n), (11, .osl 0 0 0 1 n), (12, .int .i64 (n : Nat)), (13, .int .i64 (k + 1 : Nat))] [.row false q 1 fun i => .int .i64 (A i), .row false p 1 fun i => .int .i64 (B i)] ?_ ?_ ?_ ?_ ?_ ?_ ?_ ?_
          iterate 7 (· simp [slot, lkL, fixed, rg, renH, chEq, lookH, eqvL, eqv, eqvF, rnmL, rnm, liveN, Chunk.live, goodH, Chunk.good, okL, ok, sz, szL, storL, stor, renT, okT])
          exact fun j => ⟨x - 1, by omega, k + 1, j, by omega, fun i hi => (if h : i = k then (by rw [h]; exact he) else hall i (by omega)), rfl⟩
        · have g2 : (A k != B k) = true := bne_iff_ne.2 he
          have hs : sameN n n A B = false := decide_eq_false fun h => he (h.2 k hlt)
          rw [hs] at hK
          simp -implicitDefEqProofs (maxSteps := 1000000) (disch := omega) only [↓vcB, ↓gd, ↓opP, ↓qv, ↓ef, ↓bslS, ↓stS, ↓mkS, ↓rangeS, ↓nextS, ↓entryS, ↓delS, ↓mupS, ↓appS, ↓s2bS, ↓resS, evB, Sx.look, slot, ↓lkL, putS, putO, argsL, ↓reduceIte, ofV, of1, lookH, putH, List.length_cons, List.length_nil, List.length_append, List.replicate, List.append, List.cons_append, List.nil_append, List.append_assoc, List.map_cons, List.map_nil, convS, fldA, nthT, idxA, idxS, fldS, oslN, bnd, slS, unS, valI, lenS, lookS, takeC, psB, asRow, csB, Int.toNat_natCast, Int.le_refl, and_self, rdF, Ent.row, ldS, sz, szL, wrF, bldF, plT, bldS, srcS, nilS, nilEq, mapC, binH, binS2, structS, eqL, eqF, binS, arrS, isI, tupS, stor, storL, Value.oneCell', minS, maxS, capS, true_and, and_true, Nat.reduceAdd, Nat.reduceSub, Nat.reduceMul, Nat.reduceLT, Nat.reduceLeDiff, Nat.reduceEqDiff, Nat.reduceBEq, Int.reduceToNat, Int.reduceNeg, Nat.zero_add, Nat.add_zero, Nat.sub_self, Nat.sub_zero, Nat.zero_mul, Nat.mul_one, Nat.zero_le, if_true, if_false, reduceIte, stays, inL, same1, qn, ldN, convN, lenN, List.mem_cons, List.not_mem_nil, Option.map_some, Option.map_none, cond_true, cond_false, Sx.imp_true, Sx.imp_false, implies_true, Int.reduceEq, Int.reduceNe, Int.reduceLE, Int.reduceLT, decide_true, decide_false, List.zipIdx_cons, List.zipIdx_nil, or_false, false_or, forall_eq_or_imp, forall_eq, ne_eq, reduceCtorEq, not_false_eq_true, Bool.false_eq_true, Bool.true_eq_false, Bool.not_true, Bool.not_false, notInt, numB, tabB, Array.reduceGetElem?, upG, up, nth, lay, rcB, rnm, rnmL, wrB, pcB, g1, g2, a1, res27, pl27]
          repeat (refine ⟨⟨by omega, by omega, by omega⟩, by omega, ?_⟩)
          exact intoR_refl (by simp) hK
      · have hkn : k = n := by omega
        subst k
        have g1 : decide ((n : Int) < n) = false := decide_eq_false (by omega)
        have hs : sameN n n A B = true := decide_eq_true ⟨rfl, hall⟩
        rw [hs] at hK
        simp -implicitDefEqProofs (maxSteps := 1000000) (disch := omega) only [↓vcB, ↓gd, ↓opP, ↓qv, ↓ef, ↓bslS, ↓stS, ↓mkS, ↓rangeS, ↓nextS, ↓entryS, ↓delS, ↓mupS, ↓appS, ↓s2bS, ↓resS, evB, Sx.look, slot, ↓lkL, putS, putO, argsL, ↓reduceIte, ofV, of1, lookH, putH, List.length_cons, List.length_nil, List.length_append, List.replicate, List.append, List.cons_append, List.nil_append, List.append_assoc, List.map_cons, List.map_nil, convS, fldA, nthT, idxA, idxS, fldS, oslN, bnd, slS, unS, valI, lenS, lookS, takeC, psB, asRow, csB, Int.toNat_natCast, Int.le_refl, and_self, rdF, Ent.row, ldS, sz, szL, wrF, bldF, plT, bldS, srcS, nilS, nilEq, mapC, binH, binS2, structS, eqL, eqF, binS, arrS, isI, tupS, stor, storL, Value.oneCell', minS, maxS, capS, true_and, and_true, Nat.reduceAdd, Nat.reduceSub, Nat.reduceMul, Nat.reduceLT, Nat.reduceLeDiff, Nat.reduceEqDiff, Nat.reduceBEq, Int.reduceToNat, Int.reduceNeg, Nat.zero_add, Nat.add_zero, Nat.sub_self, Nat.sub_zero, Nat.zero_mul, Nat.mul_one, Nat.zero_le, if_true, if_false, reduceIte, stays, inL, same1, qn, ldN, convN, lenN, List.mem_cons, List.not_mem_nil, Option.map_some, Option.map_none, cond_true, cond_false, Sx.imp_true, Sx.imp_false, implies_true, Int.reduceEq, Int.reduceNe, Int.reduceLE, Int.reduceLT, decide_true, decide_false, List.zipIdx_cons, List.zipIdx_nil, or_false, false_or, forall_eq_or_imp, forall_eq, ne_eq, reduceCtorEq, not_false_eq_true, Bool.false_eq_true, Bool.true_eq_false, Bool.not_true, Bool.not_false, notInt, numB, tabB, Array.reduceGetElem?, upG, up, nth, lay, rcB, rnm, rnmL, wrB, pcB, g1, res27]
        exact intoR_refl (by simp) hK
  · have g0 : ((n : Int) != m) = true := bne_iff_ne.2 (by omega)
    have hs : sameN n m A B = false := decide_eq_false fun h => hnm h.1
    rw [hs] at hK
    refine callP_of_code tabOk Try.func27 (by kernel_rfl) rfl (Nat.le_of_ble_eq_true rfl) (codeP_of_vc (pl := pl27) tabOk follows_mixed (by kernel_rfl) ?_)
    rw [Try.ntmps27]
    simp -implicitDefEqProofs (maxSteps := 1000000) (disch := omega) only [↓vcB, ↓gd, ↓opP, ↓qv, ↓ef, ↓bslS, ↓stS, ↓mkS, ↓rangeS, ↓nextS, ↓entryS, ↓delS, ↓mupS, ↓appS, ↓s2bS, ↓resS, evB, Sx.look, slot, ↓lkL, putS, putO, argsL, ↓reduceIte, ofV, of1, lookH, putH, List.length_cons, List.length_nil, List.length_append, List.replicate, List.append, List.cons_append, List.nil_append, List.append_assoc, List.map_cons, List.map_nil, convS, fldA, nthT, idxA, idxS, fldS, oslN, bnd, slS, unS, valI, lenS, lookS, takeC, psB, asRow, csB, Int.toNat_natCast, Int.le_refl, and_self, rdF, Ent.row, ldS, sz, szL, wrF, bldF, plT, bldS, srcS, nilS, nilEq, mapC, binH, binS2, structS, eqL, eqF, binS, arrS, isI, tupS, stor, storL, Value.oneCell', minS, maxS, capS, true_and, and_true, Nat.reduceAdd, Nat.reduceSub, Nat.reduceMul, Nat.reduceLT, Nat.reduceLeDiff, Nat.reduceEqDiff, Nat.reduceBEq, Int.reduceToNat, Int.reduceNeg, Nat.zero_add, Nat.add_zero, Nat.sub_self, Nat.sub_zero, Nat.zero_mul, Nat.mul_one, Nat.zero_le, if_true, if_false, reduceIte, stays, inL, same1, qn, ldN, convN, lenN, List.mem_cons, List.not_mem_nil, Option.map_some, Option.map_none, cond_true, cond_false, Sx.imp_true, Sx.imp_false, implies_true, Int.reduceEq, Int.reduceNe, Int.reduceLE, Int.reduceLT, decide_true, decide_false, List.zipIdx_cons, List.zipIdx_nil, or_false, false_or, forall_eq_or_imp, forall_eq, ne_eq, reduceCtorEq, not_false_eq_true, Bool.false_eq_true, Bool.true_eq_false, Bool.not_true, Bool.not_false, notInt, numB, tabB, Array.reduceGetElem?, upG, up, nth, lay, rcB, rnm, rnmL, wrB, pcB, res27, g0, res27]
    exact intoR_refl (by simp) hK

theorem c27 (h : List Chunk) (k1 k2 n m q p : Nat) (w1 w2 : Bool) (hne : k1 ≠ k2) (hn : n ≤ q) (hm : m ≤ p) (hq : q ≤ 9223372036854775807) (hp : p ≤ 9223372036854775807) (A B : Nat → Int) (h1 : lookH h k1 = .row w1 q 1 fun i => .int .i64 (A i)) (h2 : lookH h k2 = .row w2 p 1 fun i => .int .i64 (B i)) (l1 : k1 < h.length) (l2 : k2 < h.length)
    (K : Tok → SV → List Chunk → Prop) (hK : K .mk (.bool (sameN n m A B)) h) : callP Try.prog 27 [.osl k1 0 0 1 n, .osl k2 0 0 1 m] h K := by
  refine callP_frame (argsL := [.osl 0 0 0 1 n, .osl 1 0 0 1 m]) (KL := fun _ v h' => v = .bool (sameN n m A B) ∧ h' = [.row false q 1 fun i => .int .i64 (A i), .row false p 1 fun i => .int .i64 (B i)]) [k1, k2] (c27k n m q p hn hm hq hp A B _ ⟨rfl, rfl⟩) ?_ ?_ ?_ ?_ ?_ ?_
  · simp [hne]
  · exact ⟨l1, by rw [h1]; simp [slot, lkL, fixed, rg, renH, chEq, lookH, eqvL, eqv, eqvF, rnmL, rnm, liveN, Chunk.live, goodH, Chunk.good, okL, ok, sz, szL, storL, stor, renT, okT], l2, by rw [h2]; simp [slot, lkL, fixed, rg, renH, chEq, lookH, eqvL, eqv, eqvF, rnmL, rnm, liveN, Chunk.live, goodH, Chunk.good, okL, ok, sz, szL, storL, stor, renT, okT], trivial⟩
  · simp [slot, lkL, fixed, rg, renH, chEq, lookH, eqvL, eqv, eqvF, rnmL, rnm, liveN, Chunk.live, goodH, Chunk.good, okL, ok, sz, szL, storL, stor, renT, okT]
  · simp [slot, lkL, fixed, rg, renH, chEq, lookH, eqvL, eqv, eqvF, rnmL, rnm, liveN, Chunk.live, goodH, Chunk.good, okL, ok, sz, szL, storL, stor, renT, okT]
  · simp [rnmL, rnm, upG, up, nth]
  · rintro v h' ⟨rfl, rfl⟩
    refine ⟨?_, ?_, ?_⟩
    · simp [roOk]
    · simp [keepsLive, Chunk.live]
    · have e2 : lay (upG [k1, k2] h.length) [k1, k2] [.row false q 1 fun i => .int .i64 (A i), .row false p 1 fun i => .int .i64 (B i)] [.row false q 1 fun i => .int .i64 (A i), .row false p 1 fun i => .int .i64 (B i)] h = h := by simp [lay, Chunk.wr]
      rw [e2]
      exact hK
end Go.Proofs.Ytloinbebkhcndaa

set_option linter.all false
set_option maxRecDepth 40000
namespace Go.Proofs.Ytloinbebkhcndaa
open Go Go.Sx

end Go.Proofs.Ytloinbebkhcndaa

set_option linter.all false
set_option maxRecDepth 40000
namespace Go.Proofs.Ytloinbebkhcndaa
open Go Go.Sx
end Go.Proofs.Ytloinbebkhcndaa

set_option linter.all false
set_option maxRecDepth 40000
namespace Go.Proofs.Ytloinbebkhcndaa
open Go Go.Sx

theorem lkL_map (ρ : Env) (j : Nat → Value) : ∀ (l l' : List (Nat × SV)), (l'.map fun p => (p.1, den ρ p.2)) = (l.map fun p => (p.1, den ρ p.2)) → ∀ i, den ρ (lkL l' j i) = den ρ (lkL l j i)
  | [], [], _, _ => rfl
  | [], _ :: _, h, _ => by simp at h
  | _ :: _, [], h, _ => by simp at h
  | (k, v) :: l, (k', v') :: l', h, i => by
    simp only [List.map_cons, List.cons.injEq, Prod.mk.injEq] at h
    obtain ⟨⟨rfl, h1⟩, h2⟩ := h
    simp only [lkL]
    split
    · exact h1
    · exact lkL_map ρ j l l' h2 i
/-- Nil slices in slots may have a name. -/
theorem into_nil {nf n : Nat} {l : List (Nat × SV)} {j : Nat → Value} {h : List Chunk} {d : List Deferred} {J : St → Prop} (l' : List (Nat × SV)) (s : Nat) (f : Nat → SV)
    (hl : ∀ ρ : Env, ρ h.length = ⟨0, 0, 0, true⟩ → (l'.map fun p => (p.1, den ρ p.2)) = (l.map fun p => (p.1, den ρ p.2))) (ho : okE (h.length + 1) n l') (hJ : Into nf ⟨⟨n, l', j⟩, h ++ [.row true 0 s f], d⟩ J) : Into nf ⟨⟨n, l, j⟩, h, d⟩ J := fun C ρ w hC hM hok => by
  have hM1 : Models C (upd ρ h.length ⟨0, 0, 0, true⟩) (h ++ [.row true 0 s f]) w := hM.alloc (Keep.refl _ _) (fun h => by cases h) ⟨fun i hi => absurd hi (by omega), fun i hi => absurd hi (by omega)⟩ (by simp [Holds, upd])
  have ha : Agree h.length ρ (upd ρ h.length ⟨0, 0, 0, true⟩) := fun k hk => by simp [upd, show k ≠ h.length by omega]
  obtain ⟨ρ', st', h1, h2, h3, h4⟩ := hJ C _ w hC hM1 ⟨hok.1, by simpa using ho⟩
  refine ⟨ρ', st', h1, h2, h3, ?_⟩
  rw [← h4]
  have e : tmpsD ρ ⟨n, l, j⟩ = tmpsD (upd ρ h.length ⟨0, 0, 0, true⟩) ⟨n, l', j⟩ := by
    rw [← tmpsD_agree ha hok]
    unfold tmpsD
    apply List.map_congr_left
    intro i _
    exact (lkL_map _ j l l' (hl _ (by simp [upd])) i).symm
  simp only [act, e]
end Go.Proofs.Ytloinbebkhcndaa

set_option linter.all false
set_option maxRecDepth 40000
namespace Go.Proofs.Ytloinbebkhcndaa
open Go Go.Sx
theorem into_bind {nf : Nat} {st : St} {J' J : St → Prop} (h : Into nf st J') (hj : ∀ st, J' st → Into nf st J) : Into nf st J := fun C ρ w hC hM hok => by
  obtain ⟨ρ1, s1, h1, h2, h3, h4⟩ := h C ρ w hC hM hok
  obtain ⟨ρ2, s2, q1, q2, q3, q4⟩ := hj s1 h1 C ρ1 w hC h2 h3
  exact ⟨ρ2, s2, q1, q2, q3, h4.trans q4⟩
end Go.Proofs.Ytloinbebkhcndaa

set_option linter.all false
set_option maxRecDepth 40000
namespace Go.Proofs.Ytloinbebkhcndaa
open Go Go.Sx
theorem csz_nilFunc : Value.nilFunc.cells.size = 1 := rfl
section
variable {P : Pr} (hP : P.p = Try.prog) {qs : List Nat} {h : List Chunk} {k1 k2 : Nat} {w1 w2 : Bool} {a : Int}
include hP
end
end Go.Proofs.Ytloinbebkhcndaa

set_option linter.all false
set_option maxRecDepth 40000
namespace Go.Proofs.Ytloinbebkhcndaa
open Go Go.Sx
def f3 (x y : Int) : Int := IntKind.i64.wrap (IntKind.i64.wrap (x * 3) + y)
theorem funS_known2 {p : Program} {f : FuncId} {lb : List Value} {n : Nat} {xs : Nat → Value} {f2 : FuncId} {lb2 : List Value} {fx : List SV → Option SV} {hs : ∃ a r, fx a = some r} (qs : List Nat) (h : List Chunk) : FunS (seqfPr p f lb n xs (.func (.func f2) #[] ⟨lb2⟩) fx hs) qs h (.v (.func (.func f2) #[] ⟨lb2⟩)) fx := fun ρ w X hk _ => by
  obtain ⟨B, h1, h2⟩ := hk.2
  obtain ⟨a, r, har⟩ := hs
  have hB : ∀ b, B b → b < w.heap.size := by
    obtain ⟨_, _, _, _, h3, _⟩ := (h2 a r har).2 fun _ => ⟨0, 0, 0, true⟩
    exact h3
  exact ⟨f2, lb2, B, rfl, hB, h2, fun b hb => .inl (h1 b hb)⟩
section
variable {P : Pr} (hP : P.p = Try.prog)
include hP
end
end Go.Proofs.Ytloinbebkhcndaa

set_option linter.all false
set_option maxRecDepth 40000
namespace Go.Proofs.Ytloinbebkhcndaa
open Go Go.Sx

@[reducible] def seqsPr (p : Program) (n : Nat) (Fv : Nat → Value) (m : Nat → Nat) (A : Nat → Nat → Int) : Pr :=
  ⟨p, fun w X => ∀ i, i < n → (Fv i = .nilFunc ∧ m i = 0) ∨ ∃ f lb, Fv i = .func (.func f) #[] ⟨lb⟩ ∧ seqK p f lb (m i) (fun k => .int .i64 (A i k)) w X, fun h hk hY i hi => (h i hi).imp id fun ⟨f, lb, e, h⟩ => ⟨f, lb, e, h.keep hk hY⟩⟩
end Go.Proofs.Ytloinbebkhcndaa

set_option linter.all false
set_option maxRecDepth 40000
namespace Go.Proofs.Ytloinbebkhcndaa
open Go Go.Sx

theorem SeqL.valsL {P : Pr} (hP : P.p = Try.prog) {qs : List Nat} {h : List Chunk} {k1 k2 : Nat} {w1 w2 : Bool} {L : List Int} (n : Nat) (hn : n ≤ 9223372036854775807) (A : Nat → Int) (hL : L = (List.range n).map A) (h1 : lookH h k1 = .cells w1 [.osl k2 0 0 1 n]) (h2 : lookH h k2 = .row w2 n 1 fun i => .int .i64 (A i)) (m1 : k1 ∈ qs) (m2 : k2 ∈ qs) : SeqL P qs h (.fn (.func 100) [] [.ptr k1 0]) L :=
  hL ▸ SeqL.vals hP n hn A h1 h2 m1 m2
end Go.Proofs.Ytloinbebkhcndaa

set_option linter.all false
set_option maxRecDepth 40000
namespace Go.Proofs.Ytloinbebkhcndaa
open Go Go.Sx

/-- A map's keys, as a list. -/
theorem mfindF_L {α : Type} [BEq α] {kt : TypeId} {sv : α → SV} {d : α} (hE : ∀ x y, ∃ p, keyE tab kt (sv x) (sv y) = some (p, x == y) ∧ p) (x : α) : ∀ (L pre : List α), mfindF tab kt (sv x) (fun i => sv ((pre ++ L).getD i d)) L.length pre.length = (L.findIdx? (x == ·)).map (· + pre.length)
  | [], pre => rfl
  | y :: L, pre => by
    have e0 : (pre ++ y :: L).getD pre.length d = y := by
      rw [List.getD_eq_getElem?_getD, List.getElem?_append_right (Nat.le_refl _), Nat.sub_self]
      rfl
    have ih := mfindF_L (d := d) hE x L (pre ++ [y])
    rw [List.append_assoc, List.length_append] at ih
    simp only [List.singleton_append, List.length_singleton] at ih
    obtain ⟨p, hp, _⟩ := hE x y
    simp only [List.length_cons, mfindF, e0, hp, List.findIdx?_cons]
    cases hxy : x == y with
    | true => simp
    | false =>
      simp only [Bool.false_eq_true, if_false]
      rw [ih]
      cases L.findIdx? (x == ·) <;> simp <;> omega
theorem mfind_L {α : Type} [BEq α] {kt : TypeId} {sv : α → SV} {d : α} (hE : ∀ x y, ∃ p, keyE tab kt (sv x) (sv y) = some (p, x == y) ∧ p) (x : α) (L : List α) : mfind tab kt (sv x) L.length (fun i => sv (L.getD i d)) = L.findIdx? (x == ·) := by
  have := mfindF_L (d := d) hE x L []
  simpa [mfind] using this
theorem keysS_L {α : Type} [BEq α] {kt : TypeId} {sv : α → SV} {d : α} (hE : ∀ x y, ∃ p, keyE tab kt (sv x) (sv y) = some (p, x == y) ∧ p) (x : α) (L : List α) : keysS tab kt (sv x) L.length (fun i => sv (L.getD i d)) := fun i _ => by
  obtain ⟨p, h1, h2⟩ := hE x (L.getD i d)
  exact ⟨p, _, h1, h2⟩
theorem find_none {α : Type} [BEq α] [LawfulBEq α] {x : α} {L : List α} : L.findIdx? (x == ·) = none ↔ x ∉ L := by
  rw [List.findIdx?_eq_none_iff]
  constructor
  · intro h hm
    have := h x hm
    simp at this
  · intro h y hy
    rw [beq_eq_false_iff_ne]
    rintro rfl
    exact h hy
theorem find_some {α : Type} [BEq α] [LawfulBEq α] {x : α} {L : List α} {i : Nat} (h : L.findIdx? (x == ·) = some i) : ∃ hi : i < L.length, L[i] = x := by
  obtain ⟨hi, h1, _⟩ := List.findIdx?_eq_some_iff_getElem.1 h
  exact ⟨hi, (eq_of_beq h1).symm⟩
theorem keyI (x y : Int) : ∃ p, keyE tab 3 (.int .i64 x) (.int .i64 y) = some (p, x == y) ∧ p := ⟨_, rfl, rfl⟩
theorem one1 : ((1 : Int) == 1) = true := rfl
theorem zero1 : ((0 : Int) == 1) = false := rfl

theorem res53 : Try.f53.results.toList = [.tmp 4] := rfl
theorem res51 : Try.f51.results.toList = [.tmp 4] := rfl
theorem res54 : Try.f54.results.toList = [.tmp 2] := rfl
def pl53 : Nat → Plan := fun _ => .nil

def pl51 : Nat → Plan := fun _ => .nil

/-- Has, of a set that is not empty ever. -/
theorem c53 (x : Int) (L : List Int) (h : List Chunk) (p m : Nat) (w : Bool) (born : Nat → Nat) (clock : Nat) (hp : lookH h p = .cells w [.mp m]) (hm : lookH h m = .map L.length (fun i => .int .i64 (L.getD i default)) (fun _ => .int .i64 1) born clock) (b : Bool) (hb : b = decide (x ∈ L)) (K : Tok → SV → List Chunk → Prop) (hK : K .mk (.bool b) h) :
    callP Try.prog 53 [.ptr p 0, .int .i64 x] h K := by
  have hks := keysS_L (d := default) keyI x L
  have hf := mfind_L (d := default) keyI x L
  have hkk : keyS tab 3 (.int .i64 x) := trivial
  refine callP_of_code tabOk Try.func53 (by kernel_rfl) rfl (Nat.le_of_ble_eq_true rfl) (codeP_of_vc (pl := pl53) tabOk follows_mixed (by kernel_rfl) ?_)
  rw [Try.ntmps53]
  cases hq : L.findIdx? (x == ·) with
  | none =>
    have hbf : b = false := by rw [hb, decide_eq_false]; exact find_none.1 hq
    rw [hq] at hf
    rw [hbf] at hK
    simp -implicitDefEqProofs (maxSteps := 1000000) (disch := omega) only [↓vcB, ↓gd, ↓opP, ↓qv, ↓ef, ↓bslS, ↓stS, ↓mkS, ↓rangeS, ↓nextS, ↓entryS, ↓delS, ↓mupS, ↓appS, ↓s2bS, ↓resS, evB, Sx.look, slot, ↓lkL, putS, putO, argsL, ↓reduceIte, ofV, of1, lookH, putH, List.length_cons, List.length_nil, List.length_append, List.replicate, List.append, List.cons_append, List.nil_append, List.append_assoc, List.map_cons, List.map_nil, convS, fldA, nthT, idxA, idxS, fldS, oslN, bnd, slS, unS, valI, lenS, lookS, takeC, psB, asRow, csB, Int.toNat_natCast, Int.le_refl, and_self, rdF, Ent.row, ldS, sz, szL, wrF, bldF, plT, bldS, srcS, nilS, nilEq, mapC, binH, binS2, structS, eqL, eqF, binS, arrS, isI, tupS, stor, storL, Value.oneCell', minS, maxS, capS, true_and, and_true, Nat.reduceAdd, Nat.reduceSub, Nat.reduceMul, Nat.reduceLT, Nat.reduceLeDiff, Nat.reduceEqDiff, Nat.reduceBEq, Int.reduceToNat, Int.reduceNeg, Nat.zero_add, Nat.add_zero, Nat.sub_self, Nat.sub_zero, Nat.zero_mul, Nat.mul_one, Nat.zero_le, if_true, if_false, reduceIte, stays, inL, same1, qn, ldN, convN, lenN, List.mem_cons, List.not_mem_nil, Option.map_some, Option.map_none, cond_true, cond_false, Sx.imp_true, Sx.imp_false, implies_true, Int.reduceEq, Int.reduceNe, Int.reduceLE, Int.reduceLT, decide_true, decide_false, List.zipIdx_cons, List.zipIdx_nil, or_false, false_or, forall_eq_or_imp, forall_eq, ne_eq, reduceCtorEq, not_false_eq_true, Bool.false_eq_true, Bool.true_eq_false, Bool.not_true, Bool.not_false, notInt, numB, tabB, Array.reduceGetElem?, upG, up, nth, lay, rcB, rnm, rnmL, wrB, pcB, Option.isNone, res53, pl53, hp, hm, hf, hks, hkk, zero1]
    exact intoR_refl (Nat.le_refl _) hK
  | some i =>
    obtain ⟨hi, he⟩ := find_some hq
    have hbf : b = true := by rw [hb, decide_eq_true]; rw [← he]; exact List.getElem_mem hi
    rw [hq] at hf
    rw [hbf] at hK
    simp -implicitDefEqProofs (maxSteps := 1000000) (disch := omega) only [↓vcB, ↓gd, ↓opP, ↓qv, ↓ef, ↓bslS, ↓stS, ↓mkS, ↓rangeS, ↓nextS, ↓entryS, ↓delS, ↓mupS, ↓appS, ↓s2bS, ↓resS, evB, Sx.look, slot, ↓lkL, putS, putO, argsL, ↓reduceIte, ofV, of1, lookH, putH, List.length_cons, List.length_nil, List.length_append, List.replicate, List.append, List.cons_append, List.nil_append, List.append_assoc, List.map_cons, List.map_nil, convS, fldA, nthT, idxA, idxS, fldS, oslN, bnd, slS, unS, valI, lenS, lookS, takeC, psB, asRow, csB, Int.toNat_natCast, Int.le_refl, and_self, rdF, Ent.row, ldS, sz, szL, wrF, bldF, plT, bldS, srcS, nilS, nilEq, mapC, binH, binS2, structS, eqL, eqF, binS, arrS, isI, tupS, stor, storL, Value.oneCell', minS, maxS, capS, true_and, and_true, Nat.reduceAdd, Nat.reduceSub, Nat.reduceMul, Nat.reduceLT, Nat.reduceLeDiff, Nat.reduceEqDiff, Nat.reduceBEq, Int.reduceToNat, Int.reduceNeg, Nat.zero_add, Nat.add_zero, Nat.sub_self, Nat.sub_zero, Nat.zero_mul, Nat.mul_one, Nat.zero_le, if_true, if_false, reduceIte, stays, inL, same1, qn, ldN, convN, lenN, List.mem_cons, List.not_mem_nil, Option.map_some, Option.map_none, cond_true, cond_false, Sx.imp_true, Sx.imp_false, implies_true, Int.reduceEq, Int.reduceNe, Int.reduceLE, Int.reduceLT, decide_true, decide_false, List.zipIdx_cons, List.zipIdx_nil, or_false, false_or, forall_eq_or_imp, forall_eq, ne_eq, reduceCtorEq, not_false_eq_true, Bool.false_eq_true, Bool.true_eq_false, Bool.not_true, Bool.not_false, notInt, numB, tabB, Array.reduceGetElem?, upG, up, nth, lay, rcB, rnm, rnmL, wrB, pcB, Option.isNone, res53, pl53, hp, hm, hf, hks, hkk, one1]
    exact intoR_refl (Nat.le_refl _) hK
theorem c53n (x : Int) (h : List Chunk) (p : Nat) (w : Bool) (hp : lookH h p = .cells w [.v (.map none)]) (K : Tok → SV → List Chunk → Prop) (hK : K .mk (.bool false) h) : callP Try.prog 53 [.ptr p 0, .int .i64 x] h K := by
  have hkk : keyS tab 3 (.int .i64 x) := trivial
  refine callP_of_code tabOk Try.func53 (by kernel_rfl) rfl (Nat.le_of_ble_eq_true rfl) (codeP_of_vc (pl := pl53) tabOk follows_mixed (by kernel_rfl) ?_)
  rw [Try.ntmps53]
  simp -implicitDefEqProofs (maxSteps := 1000000) (disch := omega) only [↓vcB, ↓gd, ↓opP, ↓qv, ↓ef, ↓bslS, ↓stS, ↓mkS, ↓rangeS, ↓nextS, ↓entryS, ↓delS, ↓mupS, ↓appS, ↓s2bS, ↓resS, evB, Sx.look, slot, ↓lkL, putS, putO, argsL, ↓reduceIte, ofV, of1, lookH, putH, List.length_cons, List.length_nil, List.length_append, List.replicate, List.append, List.cons_append, List.nil_append, List.append_assoc, List.map_cons, List.map_nil, convS, fldA, nthT, idxA, idxS, fldS, oslN, bnd, slS, unS, valI, lenS, lookS, takeC, psB, asRow, csB, Int.toNat_natCast, Int.le_refl, and_self, rdF, Ent.row, ldS, sz, szL, wrF, bldF, plT, bldS, srcS, nilS, nilEq, mapC, binH, binS2, structS, eqL, eqF, binS, arrS, isI, tupS, stor, storL, Value.oneCell', minS, maxS, capS, true_and, and_true, Nat.reduceAdd, Nat.reduceSub, Nat.reduceMul, Nat.reduceLT, Nat.reduceLeDiff, Nat.reduceEqDiff, Nat.reduceBEq, Int.reduceToNat, Int.reduceNeg, Nat.zero_add, Nat.add_zero, Nat.sub_self, Nat.sub_zero, Nat.zero_mul, Nat.mul_one, Nat.zero_le, if_true, if_false, reduceIte, stays, inL, same1, qn, ldN, convN, lenN, List.mem_cons, List.not_mem_nil, Option.map_some, Option.map_none, cond_true, cond_false, Sx.imp_true, Sx.imp_false, implies_true, Int.reduceEq, Int.reduceNe, Int.reduceLE, Int.reduceLT, decide_true, decide_false, List.zipIdx_cons, List.zipIdx_nil, or_false, false_or, forall_eq_or_imp, forall_eq, ne_eq, reduceCtorEq, not_false_eq_true, Bool.false_eq_true, Bool.true_eq_false, Bool.not_true, Bool.not_false, notInt, numB, tabB, Array.reduceGetElem?, upG, up, nth, lay, rcB, rnm, rnmL, wrB, pcB, Option.isNone, res53, pl53, hp, hkk, zero1]
  exact intoR_refl (Nat.le_refl _) hK
/-- Add, of what is in it. -/
theorem c51p (x : Int) (L : List Int) (h : List Chunk) (p m : Nat) (w : Bool) (born : Nat → Nat) (clock : Nat) (hp : lookH h p = .cells w [.mp m]) (hm : lookH h m = .map L.length (fun i => .int .i64 (L.getD i default)) (fun _ => .int .i64 1) born clock) (hx : x ∈ L) (K : Tok → SV → List Chunk → Prop) (hK : K .mk (.bool false) h) :
    callP Try.prog 51 [.ptr p 0, .int .i64 x] h K := by
  refine callP_of_code tabOk Try.func51 (by kernel_rfl) rfl (Nat.le_of_ble_eq_true rfl) (codeP_of_vc (pl := pl51) tabOk follows_mixed (by kernel_rfl) ?_)
  rw [Try.ntmps51]
  simp -implicitDefEqProofs (maxSteps := 1000000) (disch := omega) only [↓vcB, ↓gd, ↓opP, ↓qv, ↓ef, ↓bslS, ↓stS, ↓mkS, ↓rangeS, ↓nextS, ↓entryS, ↓delS, ↓mupS, ↓appS, ↓s2bS, ↓resS, evB, Sx.look, slot, ↓lkL, putS, putO, argsL, ↓reduceIte, ofV, of1, lookH, putH, List.length_cons, List.length_nil, List.length_append, List.replicate, List.append, List.cons_append, List.nil_append, List.append_assoc, List.map_cons, List.map_nil, convS, fldA, nthT, idxA, idxS, fldS, oslN, bnd, slS, unS, valI, lenS, lookS, takeC, psB, asRow, csB, Int.toNat_natCast, Int.le_refl, and_self, rdF, Ent.row, ldS, sz, szL, wrF, bldF, plT, bldS, srcS, nilS, nilEq, mapC, binH, binS2, structS, eqL, eqF, binS, arrS, isI, tupS, stor, storL, Value.oneCell', minS, maxS, capS, true_and, and_true, Nat.reduceAdd, Nat.reduceSub, Nat.reduceMul, Nat.reduceLT, Nat.reduceLeDiff, Nat.reduceEqDiff, Nat.reduceBEq, Int.reduceToNat, Int.reduceNeg, Nat.zero_add, Nat.add_zero, Nat.sub_self, Nat.sub_zero, Nat.zero_mul, Nat.mul_one, Nat.zero_le, if_true, if_false, reduceIte, stays, inL, same1, qn, ldN, convN, lenN, List.mem_cons, List.not_mem_nil, Option.map_some, Option.map_none, cond_true, cond_false, Sx.imp_true, Sx.imp_false, implies_true, Int.reduceEq, Int.reduceNe, Int.reduceLE, Int.reduceLT, decide_true, decide_false, List.zipIdx_cons, List.zipIdx_nil, or_false, false_or, forall_eq_or_imp, forall_eq, ne_eq, reduceCtorEq, not_false_eq_true, Bool.false_eq_true, Bool.true_eq_false, Bool.not_true, Bool.not_false, notInt, numB, tabB, Array.reduceGetElem?, upG, up, nth, lay, rcB, rnm, rnmL, wrB, pcB, Option.isNone, res51, pl51]
  refine c53 x L _ p m w born clock hp hm true (decide_eq_true hx).symm _ ?_
  simp -implicitDefEqProofs (maxSteps := 1000000) (disch := omega) only [↓vcB, ↓gd, ↓opP, ↓qv, ↓ef, ↓bslS, ↓stS, ↓mkS, ↓rangeS, ↓nextS, ↓entryS, ↓delS, ↓mupS, ↓appS, ↓s2bS, ↓resS, evB, Sx.look, slot, ↓lkL, putS, putO, argsL, ↓reduceIte, ofV, of1, lookH, putH, List.length_cons, List.length_nil, List.length_append, List.replicate, List.append, List.cons_append, List.nil_append, List.append_assoc, List.map_cons, List.map_nil, convS, fldA, nthT, idxA, idxS, fldS, oslN, bnd, slS, unS, valI, lenS, lookS, takeC, psB, asRow, csB, Int.toNat_natCast, Int.le_refl, and_self, rdF, Ent.row, ldS, sz, szL, wrF, bldF, plT, bldS, srcS, nilS, nilEq, mapC, binH, binS2, structS, eqL, eqF, binS, arrS, isI, tupS, stor, storL, Value.oneCell', minS, maxS, capS, true_and, and_true, Nat.reduceAdd, Nat.reduceSub, Nat.reduceMul, Nat.reduceLT, Nat.reduceLeDiff, Nat.reduceEqDiff, Nat.reduceBEq, Int.reduceToNat, Int.reduceNeg, Nat.zero_add, Nat.add_zero, Nat.sub_self, Nat.sub_zero, Nat.zero_mul, Nat.mul_one, Nat.zero_le, if_true, if_false, reduceIte, stays, inL, same1, qn, ldN, convN, lenN, List.mem_cons, List.not_mem_nil, Option.map_some, Option.map_none, cond_true, cond_false, Sx.imp_true, Sx.imp_false, implies_true, Int.reduceEq, Int.reduceNe, Int.reduceLE, Int.reduceLT, decide_true, decide_false, List.zipIdx_cons, List.zipIdx_nil, or_false, false_or, forall_eq_or_imp, forall_eq, ne_eq, reduceCtorEq, not_false_eq_true, Bool.false_eq_true, Bool.true_eq_false, Bool.not_true, Bool.not_false, notInt, numB, tabB, Array.reduceGetElem?, upG, up, nth, lay, rcB, rnm, rnmL, wrB, pcB, Option.isNone, res51, pl51]
  exact intoR_refl (Nat.le_refl _) hK
/-- Add, of what is not. -/
theorem c51a (x : Int) (L : List Int) (h : List Chunk) (p m : Nat) (w : Bool) (born : Nat → Nat) (clock : Nat) (hp : lookH h p = .cells w [.mp m]) (hm : lookH h m = .map L.length (fun i => .int .i64 (L.getD i default)) (fun _ => .int .i64 1) born clock) (hx : x ∉ L) (K : Tok → SV → List Chunk → Prop)
    (hK : K .mk (.bool true) (putH h m (.map (L.length + 1) (fun j => if j < L.length then .int .i64 (L.getD j default) else .int .i64 x) (fun _ => .int .i64 1) (fun j => if j < L.length then born j else clock) (clock + 1)))) :
    callP Try.prog 51 [.ptr p 0, .int .i64 x] h K := by
  have hks := keysS_L (d := default) keyI x L
  have hf := mfind_L (d := default) keyI x L
  have hkk : keyS tab 3 (.int .i64 x) := trivial
  rw [find_none.2 hx] at hf
  refine callP_of_code tabOk Try.func51 (by kernel_rfl) rfl (Nat.le_of_ble_eq_true rfl) (codeP_of_vc (pl := pl51) tabOk follows_mixed (by kernel_rfl) ?_)
  rw [Try.ntmps51]
  simp -implicitDefEqProofs (maxSteps := 1000000) (disch := omega) only [↓vcB, ↓gd, ↓opP, ↓qv, ↓ef, ↓bslS, ↓stS, ↓mkS, ↓rangeS, ↓nextS, ↓entryS, ↓delS, ↓mupS, ↓appS, ↓s2bS, ↓resS, evB, Sx.look, slot, ↓lkL, putS, putO, argsL, ↓reduceIte, ofV, of1, lookH, putH, List.length_cons, List.length_nil, List.length_append, List.replicate, List.append, List.cons_append, List.nil_append, List.append_assoc, List.map_cons, List.map_nil, convS, fldA, nthT, idxA, idxS, fldS, oslN, bnd, slS, unS, valI, lenS, lookS, takeC, psB, asRow, csB, Int.toNat_natCast, Int.le_refl, and_self, rdF, Ent.row, ldS, sz, szL, wrF, bldF, plT, bldS, srcS, nilS, nilEq, mapC, binH, binS2, structS, eqL, eqF, binS, arrS, isI, tupS, stor, storL, Value.oneCell', minS, maxS, capS, true_and, and_true, Nat.reduceAdd, Nat.reduceSub, Nat.reduceMul, Nat.reduceLT, Nat.reduceLeDiff, Nat.reduceEqDiff, Nat.reduceBEq, Int.reduceToNat, Int.reduceNeg, Nat.zero_add, Nat.add_zero, Nat.sub_self, Nat.sub_zero, Nat.zero_mul, Nat.mul_one, Nat.zero_le, if_true, if_false, reduceIte, stays, inL, same1, qn, ldN, convN, lenN, List.mem_cons, List.not_mem_nil, Option.map_some, Option.map_none, cond_true, cond_false, Sx.imp_true, Sx.imp_false, implies_true, Int.reduceEq, Int.reduceNe, Int.reduceLE, Int.reduceLT, decide_true, decide_false, List.zipIdx_cons, List.zipIdx_nil, or_false, false_or, forall_eq_or_imp, forall_eq, ne_eq, reduceCtorEq, not_false_eq_true, Bool.false_eq_true, Bool.true_eq_false, Bool.not_true, Bool.not_false, notInt, numB, tabB, Array.reduceGetElem?, upG, up, nth, lay, rcB, rnm, rnmL, wrB, pcB, Option.isNone, res51, pl51]
  refine c53 x L _ p m w born clock hp hm false (decide_eq_false hx).symm _ ?_
  simp -implicitDefEqProofs (maxSteps := 1000000) (disch := omega) only [↓vcB, ↓gd, ↓opP, ↓qv, ↓ef, ↓bslS, ↓stS, ↓mkS, ↓rangeS, ↓nextS, ↓entryS, ↓delS, ↓mupS, ↓appS, ↓s2bS, ↓resS, evB, Sx.look, slot, ↓lkL, putS, putO, argsL, ↓reduceIte, ofV, of1, lookH, putH, List.length_cons, List.length_nil, List.length_append, List.replicate, List.append, List.cons_append, List.nil_append, List.append_assoc, List.map_cons, List.map_nil, convS, fldA, nthT, idxA, idxS, fldS, oslN, bnd, slS, unS, valI, lenS, lookS, takeC, psB, asRow, csB, Int.toNat_natCast, Int.le_refl, and_self, rdF, Ent.row, ldS, sz, szL, wrF, bldF, plT, bldS, srcS, nilS, nilEq, mapC, binH, binS2, structS, eqL, eqF, binS, arrS, isI, tupS, stor, storL, Value.oneCell', minS, maxS, capS, true_and, and_true, Nat.reduceAdd, Nat.reduceSub, Nat.reduceMul, Nat.reduceLT, Nat.reduceLeDiff, Nat.reduceEqDiff, Nat.reduceBEq, Int.reduceToNat, Int.reduceNeg, Nat.zero_add, Nat.add_zero, Nat.sub_self, Nat.sub_zero, Nat.zero_mul, Nat.mul_one, Nat.zero_le, if_true, if_false, reduceIte, stays, inL, same1, qn, ldN, convN, lenN, List.mem_cons, List.not_mem_nil, Option.map_some, Option.map_none, cond_true, cond_false, Sx.imp_true, Sx.imp_false, implies_true, Int.reduceEq, Int.reduceNe, Int.reduceLE, Int.reduceLT, decide_true, decide_false, List.zipIdx_cons, List.zipIdx_nil, or_false, false_or, forall_eq_or_imp, forall_eq, ne_eq, reduceCtorEq, not_false_eq_true, Bool.false_eq_true, Bool.true_eq_false, Bool.not_true, Bool.not_false, notInt, numB, tabB, Array.reduceGetElem?, upG, up, nth, lay, rcB, rnm, rnmL, wrB, pcB, Option.isNone, res51, pl51, hp, hm, hf, hks, hkk, ite_self]
  exact intoR_refl (by rw [putH_len]; exact Nat.le_refl _) hK
/-- Add, the first ever. -/
theorem c51n (x : Int) (h : List Chunk) (p : Nat) (hp : lookH h p = .cells true [.v (.map none)]) (K : Tok → SV → List Chunk → Prop)
    (hK : K .mk (.bool true) (putH h p (.cells true [.mp h.length]) ++ [.map 1 (fun _ => .int .i64 x) (fun _ => .int .i64 1) (fun _ => 0) 1])) :
    callP Try.prog 51 [.ptr p 0, .int .i64 x] h K := by
  have hks : keysS tab 3 (.int .i64 x) 0 (fun _ => .tup []) := fun i hi => absurd hi (Nat.not_lt_zero _)
  have hf : mfind tab 3 (.int .i64 x) 0 (fun _ => .tup []) = none := rfl
  have hkk : keyS tab 3 (.int .i64 x) := trivial
  have hpl := lookH_lt hp (by simp)
  have k1 : ∀ l, lookH (h ++ l) p = .cells true [.v (.map none)] := fun l => lookH_old l p _ hp (by simp)
  have k2 : ∀ l c, putH (h ++ l) p c = putH h p c ++ l := fun l c => putH_old l c hpl
  have k3 : ∀ l c, lookH (putH h p c ++ l) p = c ∨ c = .none := fun l c => (Classical.em (c = .none)).elim .inr fun hc => .inl (lookH_old l p c (lookH_put_same c hpl) hc)
  have k4 : ∀ l c, lookH (putH h p c ++ l) h.length = lookH l 0 := fun l c => by rw [← putH_length h p c]; exact lookH_app0 l _
  have k5 : ∀ l c c', putH (putH h p c ++ l) h.length c' = putH h p c ++ putH l 0 c' := fun l c c' => by rw [← putH_length h p c]; exact putH_app0 l c' _
  have k6 : ∀ l, lookH (putH h p (.cells true [.mp h.length]) ++ l) p = .cells true [.mp h.length] := fun l => (k3 l _).elim id fun h => by cases h
  have hmc : (Value.map none).cells.size = 1 := rfl
  refine callP_of_code tabOk Try.func51 (by kernel_rfl) rfl (Nat.le_of_ble_eq_true rfl) (codeP_of_vc (pl := pl51) tabOk follows_mixed (by kernel_rfl) ?_)
  rw [Try.ntmps51]
  simp -implicitDefEqProofs (maxSteps := 1000000) (disch := omega) only [↓vcB, ↓gd, ↓opP, ↓qv, ↓ef, ↓bslS, ↓stS, ↓mkS, ↓rangeS, ↓nextS, ↓entryS, ↓delS, ↓mupS, ↓appS, ↓s2bS, ↓resS, evB, Sx.look, slot, ↓lkL, putS, putO, argsL, ↓reduceIte, ofV, of1, lookH, putH, List.length_cons, List.length_nil, List.length_append, List.replicate, List.append, List.cons_append, List.nil_append, List.append_assoc, List.map_cons, List.map_nil, convS, fldA, nthT, idxA, idxS, fldS, oslN, bnd, slS, unS, valI, lenS, lookS, takeC, psB, asRow, csB, Int.toNat_natCast, Int.le_refl, and_self, rdF, Ent.row, ldS, sz, szL, wrF, bldF, plT, bldS, srcS, nilS, nilEq, mapC, binH, binS2, structS, eqL, eqF, binS, arrS, isI, tupS, stor, storL, Value.oneCell', minS, maxS, capS, true_and, and_true, Nat.reduceAdd, Nat.reduceSub, Nat.reduceMul, Nat.reduceLT, Nat.reduceLeDiff, Nat.reduceEqDiff, Nat.reduceBEq, Int.reduceToNat, Int.reduceNeg, Nat.zero_add, Nat.add_zero, Nat.sub_self, Nat.sub_zero, Nat.zero_mul, Nat.mul_one, Nat.zero_le, if_true, if_false, reduceIte, stays, inL, same1, qn, ldN, convN, lenN, List.mem_cons, List.not_mem_nil, Option.map_some, Option.map_none, cond_true, cond_false, Sx.imp_true, Sx.imp_false, implies_true, Int.reduceEq, Int.reduceNe, Int.reduceLE, Int.reduceLT, decide_true, decide_false, List.zipIdx_cons, List.zipIdx_nil, or_false, false_or, forall_eq_or_imp, forall_eq, ne_eq, reduceCtorEq, not_false_eq_true, Bool.false_eq_true, Bool.true_eq_false, Bool.not_true, Bool.not_false, notInt, numB, tabB, Array.reduceGetElem?, upG, up, nth, lay, rcB, rnm, rnmL, wrB, pcB, Option.isNone, res51, pl51]
  refine c53n x _ p true hp _ ?_
  simp -implicitDefEqProofs (maxSteps := 1000000) (disch := omega) only [↓vcB, ↓gd, ↓opP, ↓qv, ↓ef, ↓bslS, ↓stS, ↓mkS, ↓rangeS, ↓nextS, ↓entryS, ↓delS, ↓mupS, ↓appS, ↓s2bS, ↓resS, evB, Sx.look, slot, ↓lkL, putS, putO, argsL, ↓reduceIte, ofV, of1, lookH, putH, List.length_cons, List.length_nil, List.length_append, List.replicate, List.append, List.cons_append, List.nil_append, List.append_assoc, List.map_cons, List.map_nil, convS, fldA, nthT, idxA, idxS, fldS, oslN, bnd, slS, unS, valI, lenS, lookS, takeC, psB, asRow, csB, Int.toNat_natCast, Int.le_refl, and_self, rdF, Ent.row, ldS, sz, szL, wrF, bldF, plT, bldS, srcS, nilS, nilEq, mapC, binH, binS2, structS, eqL, eqF, binS, arrS, isI, tupS, stor, storL, Value.oneCell', minS, maxS, capS, true_and, and_true, Nat.reduceAdd, Nat.reduceSub, Nat.reduceMul, Nat.reduceLT, Nat.reduceLeDiff, Nat.reduceEqDiff, Nat.reduceBEq, Int.reduceToNat, Int.reduceNeg, Nat.zero_add, Nat.add_zero, Nat.sub_self, Nat.sub_zero, Nat.zero_mul, Nat.mul_one, Nat.zero_le, if_true, if_false, reduceIte, stays, inL, same1, qn, ldN, convN, lenN, List.mem_cons, List.not_mem_nil, Option.map_some, Option.map_none, cond_true, cond_false, Sx.imp_true, Sx.imp_false, implies_true, Int.reduceEq, Int.reduceNe, Int.reduceLE, Int.reduceLT, decide_true, decide_false, List.zipIdx_cons, List.zipIdx_nil, or_false, false_or, forall_eq_or_imp, forall_eq, ne_eq, reduceCtorEq, not_false_eq_true, Bool.false_eq_true, Bool.true_eq_false, Bool.not_true, Bool.not_false, notInt, numB, tabB, Array.reduceGetElem?, upG, up, nth, lay, rcB, rnm, rnmL, wrB, pcB, Option.isNone, res51, pl51, hp, hf, hks, hkk, hmc, k1, k2, k4, k5, k6, Nat.not_lt_zero, Nat.le_refl]
  exact intoR_refl (by simp [putH_len]) hK
theorem c54 (n : Nat) (key val : Nat → SV) (h : List Chunk) (p m : Nat) (w : Bool) (born : Nat → Nat) (clock : Nat) (hp : lookH h p = .cells w [.mp m]) (hm : lookH h m = .map n key val born clock) (K : Tok → SV → List Chunk → Prop) (hK : K .mk (.int .i64 (n : Nat)) h) : callP Try.prog 54 [.ptr p 0] h K := by
  refine callP_of_code tabOk Try.func54 (by kernel_rfl) rfl (Nat.le_of_ble_eq_true rfl) (codeP_of_vc (pl := np) tabOk follows_mixed (by kernel_rfl) ?_)
  rw [Try.ntmps54]
  simp -implicitDefEqProofs (maxSteps := 1000000) (disch := omega) only [↓vcB, ↓gd, ↓opP, ↓qv, ↓ef, ↓bslS, ↓stS, ↓mkS, ↓rangeS, ↓nextS, ↓entryS, ↓delS, ↓mupS, ↓appS, ↓s2bS, ↓resS, evB, Sx.look, slot, ↓lkL, putS, putO, argsL, ↓reduceIte, ofV, of1, lookH, putH, List.length_cons, List.length_nil, List.length_append, List.replicate, List.append, List.cons_append, List.nil_append, List.append_assoc, List.map_cons, List.map_nil, convS, fldA, nthT, idxA, idxS, fldS, oslN, bnd, slS, unS, valI, lenS, lookS, takeC, psB, asRow, csB, Int.toNat_natCast, Int.le_refl, and_self, rdF, Ent.row, ldS, sz, szL, wrF, bldF, plT, bldS, srcS, nilS, nilEq, mapC, binH, binS2, structS, eqL, eqF, binS, arrS, isI, tupS, stor, storL, Value.oneCell', minS, maxS, capS, true_and, and_true, Nat.reduceAdd, Nat.reduceSub, Nat.reduceMul, Nat.reduceLT, Nat.reduceLeDiff, Nat.reduceEqDiff, Nat.reduceBEq, Int.reduceToNat, Int.reduceNeg, Nat.zero_add, Nat.add_zero, Nat.sub_self, Nat.sub_zero, Nat.zero_mul, Nat.mul_one, Nat.zero_le, if_true, if_false, reduceIte, stays, inL, same1, qn, ldN, convN, lenN, List.mem_cons, List.not_mem_nil, Option.map_some, Option.map_none, cond_true, cond_false, Sx.imp_true, Sx.imp_false, implies_true, Int.reduceEq, Int.reduceNe, Int.reduceLE, Int.reduceLT, decide_true, decide_false, List.zipIdx_cons, List.zipIdx_nil, or_false, false_or, forall_eq_or_imp, forall_eq, ne_eq, reduceCtorEq, not_false_eq_true, Bool.false_eq_true, Bool.true_eq_false, Bool.not_true, Bool.not_false, notInt, numB, tabB, Array.reduceGetElem?, upG, up, nth, lay, rcB, rnm, rnmL, wrB, pcB, Option.isNone, res54, hp, hm]
  exact intoR_refl (Nat.le_refl _) hK
theorem c54z (h : List Chunk) (K : Tok → SV → List Chunk → Prop) (hK : K .mk (.int .i64 0) h) : callP Try.prog 54 [.v (.pointer none)] h K := by
  refine callP_of_code tabOk Try.func54 (by kernel_rfl) rfl (Nat.le_of_ble_eq_true rfl) (codeP_of_vc (pl := np) tabOk follows_mixed (by kernel_rfl) ?_)
  rw [Try.ntmps54]
  simp -implicitDefEqProofs (maxSteps := 1000000) (disch := omega) only [↓vcB, ↓gd, ↓opP, ↓qv, ↓ef, ↓bslS, ↓stS, ↓mkS, ↓rangeS, ↓nextS, ↓entryS, ↓delS, ↓mupS, ↓appS, ↓s2bS, ↓resS, evB, Sx.look, slot, ↓lkL, putS, putO, argsL, ↓reduceIte, ofV, of1, lookH, putH, List.length_cons, List.length_nil, List.length_append, List.replicate, List.append, List.cons_append, List.nil_append, List.append_assoc, List.map_cons, List.map_nil, convS, fldA, nthT, idxA, idxS, fldS, oslN, bnd, slS, unS, valI, lenS, lookS, takeC, psB, asRow, csB, Int.toNat_natCast, Int.le_refl, and_self, rdF, Ent.row, ldS, sz, szL, wrF, bldF, plT, bldS, srcS, nilS, nilEq, mapC, binH, binS2, structS, eqL, eqF, binS, arrS, isI, tupS, stor, storL, Value.oneCell', minS, maxS, capS, true_and, and_true, Nat.reduceAdd, Nat.reduceSub, Nat.reduceMul, Nat.reduceLT, Nat.reduceLeDiff, Nat.reduceEqDiff, Nat.reduceBEq, Int.reduceToNat, Int.reduceNeg, Nat.zero_add, Nat.add_zero, Nat.sub_self, Nat.sub_zero, Nat.zero_mul, Nat.mul_one, Nat.zero_le, if_true, if_false, reduceIte, stays, inL, same1, qn, ldN, convN, lenN, List.mem_cons, List.not_mem_nil, Option.map_some, Option.map_none, cond_true, cond_false, Sx.imp_true, Sx.imp_false, implies_true, Int.reduceEq, Int.reduceNe, Int.reduceLE, Int.reduceLT, decide_true, decide_false, List.zipIdx_cons, List.zipIdx_nil, or_false, false_or, forall_eq_or_imp, forall_eq, ne_eq, reduceCtorEq, not_false_eq_true, Bool.false_eq_true, Bool.true_eq_false, Bool.not_true, Bool.not_false, notInt, numB, tabB, Array.reduceGetElem?, upG, up, nth, lay, rcB, rnm, rnmL, wrB, pcB, Option.isNone, res54]
  exact intoR_refl (Nat.le_refl _) hK
end Go.Proofs.Ytloinbebkhcndaa
