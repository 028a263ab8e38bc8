/- Contracts of functions that the laws reach, by the symbolic executor of the texts Sxa to Sxt. No condition. -/
import Derived.Test.YtbjelfgclhmedaaU18
set_option linter.all false
set_option maxRecDepth 40000
namespace Go.Proofs.Ytbjelfgclhmedaa
open Go Go.Sx

def pl27 : Nat → Plan
  | 1 => (.q 0 (.q 1 (.q 2 (.q 3 (.q 4 (.q 5 (.q 6 (.q 7 (.q 8 (.q 9 (.q 10 (.q 11 (.q 12 (.q 13 (.q 14 (.e1 15 [13] (.q 16 (.q 17 (.q 18 (.q 19 .nil))))))))))))))))))))
  | _ => .nil

def pl28 : Nat → Plan
  | 1 => (.q 0 (.q 1 (.q 2 (.q 3 (.q 4 (.q 5 (.q 6 (.q 7 (.q 8 (.q 9 (.q 10 (.q 11 (.q 12 (.q 13 (.e1 14 [12] (.q 15 (.q 16 (.q 17 .nil))))))))))))))))))
  | _ => .nil


def vOk (key n : Int) (E : Bool) : Bool := decide (key ≥ 0) && (decide (key < n) && E)
theorem res27 : Try.f27.results.toList = [.tmp 6] := rfl
set_option maxHeartbeats 4000000 in
theorem c27l (key n : Int) (D : Nat → BitVec 8) (m len : Nat) (B : Nat → BitVec 8) (hm : len ≤ m) (hl : len ≤ 70368744177000) (K : Tok → SV → List Chunk → Prop)
    (hK : K .mk (.bool (vOk key n (famEq 32 (fun i => .int .u8 (nat (D i))) (fun i => .int .u8 (nat (shaD (9 + len) (sigT key B) i)))))) [.row false m 1 fun i => .int .u8 (nat (B i))]) :
    callP Try.prog 27 [.agg [.int .i64 key, .fam 32 1 fun i => .int .u8 (nat (D i))], .osl 0 0 0 1 len, .int .i64 n] [.row false m 1 fun i => .int .u8 (nat (B i))] K := by
  refine callP_of_code tabOk Try.func27 (by kernel_rfl) rfl (Nat.le_of_ble_eq_true rfl) (codeP_of_vc (pl := pl27) tabOk follows_mixed (by kernel_rfl) ?_)
  rw [Try.ntmps27]
  obtain ⟨F, hF⟩ : ∃ F : Nat → SV, (fun i => SV.int .u8 (nat (shaD (9 + len) (sigT key B) i))) = F := ⟨_, rfl⟩
  have hF' : ∀ i, F i = .int .u8 (nat (shaD (9 + len) (sigT key B) i)) := fun i => by rw [← hF]
  rw [hF] at hK
  simp -implicitDefEqProofs (maxSteps := 1000000) (disch := omega) only [↓vcB, ↓gd, ↓opP, ↓qv, ↓ef, ↓bslS, ↓stS, ↓mkS, ↓mupS, ↓appS, ↓s2bS, ↓resS, evB, Sx.look, slot, ↓lkL, putS, putO, argsL, ↓reduceIte, ofV, of1, lookH, putH, List.length_cons, List.length_nil, List.length_append, List.replicate, List.append, List.cons_append, List.nil_append, List.append_assoc, List.map_cons, List.map_nil, convS, fldA, nthT, idxA, idxS, fldS, oslN, bnd, slS, unS, valI, lenS, lookS, takeC, parts, asRow, single, rdF, Ent.row, ldS, sz, szL, wrF, bldF, plT, bldS, srcS, nilS, nilEq, binS2, structS, eqL, eqF, binS, arrS, isI, tupS, stor, storL, Value.oneCell', minS, maxS, capS, true_and, and_true, Nat.reduceAdd, Nat.reduceSub, Nat.reduceMul, Nat.reduceLT, Nat.reduceLeDiff, Nat.reduceEqDiff, Nat.reduceBEq, Int.reduceToNat, Int.reduceNeg, Nat.zero_add, Nat.add_zero, Nat.sub_self, Nat.sub_zero, Nat.zero_mul, Nat.mul_one, Nat.zero_le, if_true, if_false, reduceIte, stays, inL, same1, qn, ldN, convN, lenN, List.mem_cons, List.not_mem_nil, Option.map_some, Option.map_none, cond_true, cond_false, Sx.imp_true, Sx.imp_false, implies_true, Int.reduceEq, Int.reduceNe, Int.reduceLE, Int.reduceLT, decide_true, decide_false, List.zipIdx_cons, List.zipIdx_nil, or_false, false_or, forall_eq_or_imp, forall_eq, ne_eq, reduceCtorEq, not_false_eq_true, Bool.false_eq_true, Bool.true_eq_false, Bool.not_true, Bool.not_false, notInt, numB, tabB, Array.reduceGetElem?, res27, pl27, hF']
  have leaf : ∀ b, b = vOk key n (famEq 32 (fun i => SV.int IntKind.u8 (nat (D i))) F) → IntoR 1 (SV.bool b)
      [Chunk.row false m 1 fun i => SV.int IntKind.u8 (nat (B i)),
        Chunk.cells true [SV.int IntKind.i64 key, SV.fam 32 1 fun i => SV.int IntKind.u8 (nat (D i))]] K := fun b hb => by
    subst hb
    exact intoR_take [.row false m 1 fun i => .int .u8 (nat (B i))] rfl rfl (by simp [slot, lkL, fixed, rg, renH, chEq, lookH, eqvL, eqv, eqvF, rnmL, rnm, liveN, Chunk.live, goodH, Chunk.good, okL, ok, sz, szL, storL, stor, renT, okT]) (by simp [slot, lkL, fixed, rg, renH, chEq, lookH, eqvL, eqv, eqvF, rnmL, rnm, liveN, Chunk.live, goodH, Chunk.good, okL, ok, sz, szL, storL, stor, renT, okT]) hK
  refine ⟨Sx.imp_intro fun hA => ⟨Sx.imp_intro fun hB => ?_, Sx.imp_intro fun hB => ?_⟩, Sx.imp_intro fun hA => ?_⟩
  · refine c25 key m len B _ (fun i _ => rfl) hm hl false rfl (by simp) F hF _ ?_
    simp -implicitDefEqProofs (maxSteps := 1000000) (disch := omega) only [↓vcB, ↓gd, ↓opP, ↓qv, ↓ef, ↓bslS, ↓stS, ↓mkS, ↓mupS, ↓appS, ↓s2bS, ↓resS, evB, Sx.look, slot, ↓lkL, putS, putO, argsL, ↓reduceIte, ofV, of1, lookH, putH, List.length_cons, List.length_nil, List.length_append, List.replicate, List.append, List.cons_append, List.nil_append, List.append_assoc, List.map_cons, List.map_nil, convS, fldA, nthT, idxA, idxS, fldS, oslN, bnd, slS, unS, valI, lenS, lookS, takeC, parts, asRow, single, rdF, Ent.row, ldS, sz, szL, wrF, bldF, plT, bldS, srcS, nilS, nilEq, binS2, structS, eqL, eqF, binS, arrS, isI, tupS, stor, storL, Value.oneCell', minS, maxS, capS, true_and, and_true, Nat.reduceAdd, Nat.reduceSub, Nat.reduceMul, Nat.reduceLT, Nat.reduceLeDiff, Nat.reduceEqDiff, Nat.reduceBEq, Int.reduceToNat, Int.reduceNeg, Nat.zero_add, Nat.add_zero, Nat.sub_self, Nat.sub_zero, Nat.zero_mul, Nat.mul_one, Nat.zero_le, if_true, if_false, reduceIte, stays, inL, same1, qn, ldN, convN, lenN, List.mem_cons, List.not_mem_nil, Option.map_some, Option.map_none, cond_true, cond_false, Sx.imp_true, Sx.imp_false, implies_true, Int.reduceEq, Int.reduceNe, Int.reduceLE, Int.reduceLT, decide_true, decide_false, List.zipIdx_cons, List.zipIdx_nil, or_false, false_or, forall_eq_or_imp, forall_eq, ne_eq, reduceCtorEq, not_false_eq_true, Bool.false_eq_true, Bool.true_eq_false, Bool.not_true, Bool.not_false, notInt, numB, tabB, Array.reduceGetElem?, res27, pl27, hF', beq_self_eq_true, Bool.true_and, Bool.and_true]
    exact leaf _ (by simp only [vOk, hA, hB, Bool.true_and])
  · exact leaf _ (by simp only [vOk, hA, hB, Bool.true_and, Bool.false_and])
  · exact leaf _ (by simp only [vOk, hA, Bool.false_and])
theorem c27 (key n : Int) (D : Nat → BitVec 8) (G : Nat → SV) (hG : (fun i => SV.int .u8 (nat (D i))) = G) (m len : Nat) (B : Nat → BitVec 8) (f : Nat → SV) (hf : ∀ i, i < m → f i = .int .u8 (nat (B i))) (hm : len ≤ m) (hl : len ≤ 70368744177000) {h : List Chunk} {nm : Nat} (wr : Bool) (hh : lookH h nm = .row wr m 1 f) (hnm : nm < h.length) (b : Bool)
    (hb : vOk key n (famEq 32 G (fun i => .int .u8 (nat (shaD (9 + len) (sigT key B) i)))) = b) (K : Tok → SV → List Chunk → Prop) (hK : K .mk (.bool b) h) : callP Try.prog 27 [.agg [.int .i64 key, .fam 32 1 G], .osl nm 0 0 1 len, .int .i64 n] h K := by
  subst hG
  subst hb
  refine callP_frame (argsL := [.agg [.int .i64 key, .fam 32 1 fun i => .int .u8 (nat (D i))], .osl 0 0 0 1 len, .int .i64 n]) (KL := fun _ v h' => v = .bool (vOk key n (famEq 32 (fun i => .int .u8 (nat (D i))) (fun i => .int .u8 (nat (shaD (9 + len) (sigT key B) i))))) ∧ h' = [.row false m 1 fun i => .int .u8 (nat (B i))]) [nm] (c27l key n D m len B hm hl _ ⟨rfl, rfl⟩) ?_ ?_ ?_ ?_ ?_ ?_
  · simp
  · simp only [has, hh, chEq, and_true]
    exact ⟨hnm, by simp, trivial, trivial, fun i hi => by rw [hf i hi]; simp [rnm, eqv]⟩
  · simp [slot, lkL, fixed, rg, renH, chEq, lookH, eqvL, eqv, eqvF, rnmL, rnm, liveN, Chunk.live, goodH, Chunk.good, okL, ok, sz, szL, storL, stor, renT, okT, has, upG, up, nth, roOk, keepsLive, Chunk.wr, lay, rnmC, putH]
  · simp [slot, lkL, fixed, rg, renH, chEq, lookH, eqvL, eqv, eqvF, rnmL, rnm, liveN, Chunk.live, goodH, Chunk.good, okL, ok, sz, szL, storL, stor, renT, okT, has, upG, up, nth, roOk, keepsLive, Chunk.wr, lay, rnmC, putH]
  · simp [slot, lkL, fixed, rg, renH, chEq, lookH, eqvL, eqv, eqvF, rnmL, rnm, liveN, Chunk.live, goodH, Chunk.good, okL, ok, sz, szL, storL, stor, renT, okT, has, upG, up, nth, roOk, keepsLive, Chunk.wr, lay, rnmC, putH]
  · rintro v h' ⟨rfl, rfl⟩
    refine ⟨by simp [slot, lkL, fixed, rg, renH, chEq, lookH, eqvL, eqv, eqvF, rnmL, rnm, liveN, Chunk.live, goodH, Chunk.good, okL, ok, sz, szL, storL, stor, renT, okT, has, upG, up, nth, roOk, keepsLive, Chunk.wr, lay, rnmC, putH], by simp [slot, lkL, fixed, rg, renH, chEq, lookH, eqvL, eqv, eqvF, rnmL, rnm, liveN, Chunk.live, goodH, Chunk.good, okL, ok, sz, szL, storL, stor, renT, okT, has, upG, up, nth, roOk, keepsLive, Chunk.wr, lay, rnmC, putH], ?_⟩
    simpa [rnm, rnmL, lay, Chunk.wr] using hK
theorem res28 : Try.f28.results.toList = [.tmp 6] := rfl
set_option maxHeartbeats 4000000 in
theorem c28l (key n : Int) (D : Nat → BitVec 8) (m len : Nat) (B : Nat → BitVec 8) (hm : len ≤ m) (hl : len ≤ 70368744177000) (K : Tok → SV → List Chunk → Prop)
    (hK : K .mk (.bool (vOk key n (famEq 32 (fun i => .int .u8 (nat (D i))) (fun i => .int .u8 (nat (shaD (9 + len) (sigT key B) i)))))) [.row false m 1 fun i => .int .u8 (nat (B i))]) :
    callP Try.prog 28 [.agg [.int .i64 key, .fam 32 1 fun i => .int .u8 (nat (D i))], .osl 0 0 0 1 len, .int .i64 n] [.row false m 1 fun i => .int .u8 (nat (B i))] K := by
  refine callP_of_code tabOk Try.func28 (by kernel_rfl) rfl (Nat.le_of_ble_eq_true rfl) (codeP_of_vc (pl := pl28) tabOk follows_mixed (by kernel_rfl) ?_)
  rw [Try.ntmps28]
  obtain ⟨F, hF⟩ : ∃ F : Nat → SV, (fun i => SV.int .u8 (nat (shaD (9 + len) (sigT key B) i))) = F := ⟨_, rfl⟩
  have hF' : ∀ i, F i = .int .u8 (nat (shaD (9 + len) (sigT key B) i)) := fun i => by rw [← hF]
  rw [hF] at hK
  simp -implicitDefEqProofs (maxSteps := 1000000) (disch := omega) only [↓vcB, ↓gd, ↓opP, ↓qv, ↓ef, ↓bslS, ↓stS, ↓mkS, ↓mupS, ↓appS, ↓s2bS, ↓resS, evB, Sx.look, slot, ↓lkL, putS, putO, argsL, ↓reduceIte, ofV, of1, lookH, putH, List.length_cons, List.length_nil, List.length_append, List.replicate, List.append, List.cons_append, List.nil_append, List.append_assoc, List.map_cons, List.map_nil, convS, fldA, nthT, idxA, idxS, fldS, oslN, bnd, slS, unS, valI, lenS, lookS, takeC, parts, asRow, single, rdF, Ent.row, ldS, sz, szL, wrF, bldF, plT, bldS, srcS, nilS, nilEq, binS2, structS, eqL, eqF, binS, arrS, isI, tupS, stor, storL, Value.oneCell', minS, maxS, capS, true_and, and_true, Nat.reduceAdd, Nat.reduceSub, Nat.reduceMul, Nat.reduceLT, Nat.reduceLeDiff, Nat.reduceEqDiff, Nat.reduceBEq, Int.reduceToNat, Int.reduceNeg, Nat.zero_add, Nat.add_zero, Nat.sub_self, Nat.sub_zero, Nat.zero_mul, Nat.mul_one, Nat.zero_le, if_true, if_false, reduceIte, stays, inL, same1, qn, ldN, convN, lenN, List.mem_cons, List.not_mem_nil, Option.map_some, Option.map_none, cond_true, cond_false, Sx.imp_true, Sx.imp_false, implies_true, Int.reduceEq, Int.reduceNe, Int.reduceLE, Int.reduceLT, decide_true, decide_false, List.zipIdx_cons, List.zipIdx_nil, or_false, false_or, forall_eq_or_imp, forall_eq, ne_eq, reduceCtorEq, not_false_eq_true, Bool.false_eq_true, Bool.true_eq_false, Bool.not_true, Bool.not_false, notInt, numB, tabB, Array.reduceGetElem?, res28, pl28, hF']
  have leaf : ∀ b, b = vOk key n (famEq 32 (fun i => SV.int IntKind.u8 (nat (D i))) F) → IntoR 1 (SV.bool b)
      [Chunk.row false m 1 fun i => SV.int IntKind.u8 (nat (B i)),
        Chunk.cells true [SV.int IntKind.i64 key, SV.fam 32 1 fun i => SV.int IntKind.u8 (nat (D i))]] K := fun b hb => by
    subst hb
    exact intoR_take [.row false m 1 fun i => .int .u8 (nat (B i))] rfl rfl (by simp [slot, lkL, fixed, rg, renH, chEq, lookH, eqvL, eqv, eqvF, rnmL, rnm, liveN, Chunk.live, goodH, Chunk.good, okL, ok, sz, szL, storL, stor, renT, okT]) (by simp [slot, lkL, fixed, rg, renH, chEq, lookH, eqvL, eqv, eqvF, rnmL, rnm, liveN, Chunk.live, goodH, Chunk.good, okL, ok, sz, szL, storL, stor, renT, okT]) hK
  refine ⟨Sx.imp_intro fun hA => ⟨Sx.imp_intro fun hB => ?_, Sx.imp_intro fun hB => ?_⟩, Sx.imp_intro fun hA => ?_⟩
  · refine c26 key m len B _ (fun i _ => rfl) hm hl false rfl (by simp) F hF _ ?_
    simp -implicitDefEqProofs (maxSteps := 1000000) (disch := omega) only [↓vcB, ↓gd, ↓opP, ↓qv, ↓ef, ↓bslS, ↓stS, ↓mkS, ↓mupS, ↓appS, ↓s2bS, ↓resS, evB, Sx.look, slot, ↓lkL, putS, putO, argsL, ↓reduceIte, ofV, of1, lookH, putH, List.length_cons, List.length_nil, List.length_append, List.replicate, List.append, List.cons_append, List.nil_append, List.append_assoc, List.map_cons, List.map_nil, convS, fldA, nthT, idxA, idxS, fldS, oslN, bnd, slS, unS, valI, lenS, lookS, takeC, parts, asRow, single, rdF, Ent.row, ldS, sz, szL, wrF, bldF, plT, bldS, srcS, nilS, nilEq, binS2, structS, eqL, eqF, binS, arrS, isI, tupS, stor, storL, Value.oneCell', minS, maxS, capS, true_and, and_true, Nat.reduceAdd, Nat.reduceSub, Nat.reduceMul, Nat.reduceLT, Nat.reduceLeDiff, Nat.reduceEqDiff, Nat.reduceBEq, Int.reduceToNat, Int.reduceNeg, Nat.zero_add, Nat.add_zero, Nat.sub_self, Nat.sub_zero, Nat.zero_mul, Nat.mul_one, Nat.zero_le, if_true, if_false, reduceIte, stays, inL, same1, qn, ldN, convN, lenN, List.mem_cons, List.not_mem_nil, Option.map_some, Option.map_none, cond_true, cond_false, Sx.imp_true, Sx.imp_false, implies_true, Int.reduceEq, Int.reduceNe, Int.reduceLE, Int.reduceLT, decide_true, decide_false, List.zipIdx_cons, List.zipIdx_nil, or_false, false_or, forall_eq_or_imp, forall_eq, ne_eq, reduceCtorEq, not_false_eq_true, Bool.false_eq_true, Bool.true_eq_false, Bool.not_true, Bool.not_false, notInt, numB, tabB, Array.reduceGetElem?, res28, pl28, hF', beq_self_eq_true, Bool.true_and, Bool.and_true]
    exact leaf _ (by simp only [vOk, hA, hB, Bool.true_and])
  · exact leaf _ (by simp only [vOk, hA, hB, Bool.true_and, Bool.false_and])
  · exact leaf _ (by simp only [vOk, hA, Bool.false_and])
theorem c28 (key n : Int) (D : Nat → BitVec 8) (G : Nat → SV) (hG : (fun i => SV.int .u8 (nat (D i))) = G) (m len : Nat) (B : Nat → BitVec 8) (f : Nat → SV) (hf : ∀ i, i < m → f i = .int .u8 (nat (B i))) (hm : len ≤ m) (hl : len ≤ 70368744177000) {h : List Chunk} {nm : Nat} (wr : Bool) (hh : lookH h nm = .row wr m 1 f) (hnm : nm < h.length) (b : Bool)
    (hb : vOk key n (famEq 32 G (fun i => .int .u8 (nat (shaD (9 + len) (sigT key B) i)))) = b) (K : Tok → SV → List Chunk → Prop) (hK : K .mk (.bool b) h) : callP Try.prog 28 [.agg [.int .i64 key, .fam 32 1 G], .osl nm 0 0 1 len, .int .i64 n] h K := by
  subst hG
  subst hb
  refine callP_frame (argsL := [.agg [.int .i64 key, .fam 32 1 fun i => .int .u8 (nat (D i))], .osl 0 0 0 1 len, .int .i64 n]) (KL := fun _ v h' => v = .bool (vOk key n (famEq 32 (fun i => .int .u8 (nat (D i))) (fun i => .int .u8 (nat (shaD (9 + len) (sigT key B) i))))) ∧ h' = [.row false m 1 fun i => .int .u8 (nat (B i))]) [nm] (c28l key n D m len B hm hl _ ⟨rfl, rfl⟩) ?_ ?_ ?_ ?_ ?_ ?_
  · simp
  · simp only [has, hh, chEq, and_true]
    exact ⟨hnm, by simp, trivial, trivial, fun i hi => by rw [hf i hi]; simp [rnm, eqv]⟩
  · simp [slot, lkL, fixed, rg, renH, chEq, lookH, eqvL, eqv, eqvF, rnmL, rnm, liveN, Chunk.live, goodH, Chunk.good, okL, ok, sz, szL, storL, stor, renT, okT, has, upG, up, nth, roOk, keepsLive, Chunk.wr, lay, rnmC, putH]
  · simp [slot, lkL, fixed, rg, renH, chEq, lookH, eqvL, eqv, eqvF, rnmL, rnm, liveN, Chunk.live, goodH, Chunk.good, okL, ok, sz, szL, storL, stor, renT, okT, has, upG, up, nth, roOk, keepsLive, Chunk.wr, lay, rnmC, putH]
  · simp [slot, lkL, fixed, rg, renH, chEq, lookH, eqvL, eqv, eqvF, rnmL, rnm, liveN, Chunk.live, goodH, Chunk.good, okL, ok, sz, szL, storL, stor, renT, okT, has, upG, up, nth, roOk, keepsLive, Chunk.wr, lay, rnmC, putH]
  · rintro v h' ⟨rfl, rfl⟩
    refine ⟨by simp [slot, lkL, fixed, rg, renH, chEq, lookH, eqvL, eqv, eqvF, rnmL, rnm, liveN, Chunk.live, goodH, Chunk.good, okL, ok, sz, szL, storL, stor, renT, okT, has, upG, up, nth, roOk, keepsLive, Chunk.wr, lay, rnmC, putH], by simp [slot, lkL, fixed, rg, renH, chEq, lookH, eqvL, eqv, eqvF, rnmL, rnm, liveN, Chunk.live, goodH, Chunk.good, okL, ok, sz, szL, storL, stor, renT, okT, has, upG, up, nth, roOk, keepsLive, Chunk.wr, lay, rnmC, putH], ?_⟩
    simpa [rnm, rnmL, lay, Chunk.wr] using hK
end Go.Proofs.Ytbjelfgclhmedaa
