/- Contracts of functions that the laws reach, by the symbolic executor of the texts Sxa to Sxt. No condition. -/
import Derived.Test.YtbjelfgclhmedaaU6
set_option linter.all false
set_option maxRecDepth 40000
namespace Go.Proofs.Ytbjelfgclhmedaa
open Go Go.Sx

def nib (x : BitVec 8) : BitVec 8 := if 48 ≤ x ∧ x ≤ 57 then x - 48 else if 97 ≤ x ∧ x ≤ 102 then x - 97 + 10 else 16
theorem res58 : Try.f58.results.toList = [.tmp 2] := rfl
set_option maxHeartbeats 1000000 in
theorem c58 (x : BitVec 8) {h : List Chunk} (K : Tok → SV → List Chunk → Prop) (hK : K .mk (.int .u8 (nat (nib x))) h) : callP Try.prog 58 [.int .u8 (nat x)] h K := by
  refine callP_of_code tabOk Try.func58 (by kernel_rfl) rfl (Nat.le_of_ble_eq_true rfl) (codeP_of_vc (pl := np) tabOk follows_mixed (by kernel_rfl) ?_)
  rw [Try.ntmps58]
  simp -implicitDefEqProofs (maxSteps := 1000000) (disch := omega) only [↓vcB, ↓gd, ↓opP, ↓qv, ↓ef, ↓bslS, ↓stS, ↓mkS, ↓mupS, ↓appS, ↓s2bS, ↓resS, evB, Sx.look, slot, ↓lkL, putS, putO, argsL, ↓reduceIte, ofV, of1, lookH, putH, List.length_cons, List.length_nil, List.length_append, List.replicate, List.append, List.cons_append, List.nil_append, List.append_assoc, List.map_cons, List.map_nil, convS, fldA, nthT, idxA, idxS, fldS, oslN, bnd, slS, unS, valI, lenS, lookS, takeC, parts, asRow, single, rdF, Ent.row, ldS, sz, szL, wrF, bldF, plT, bldS, srcS, nilS, nilEq, binS2, structS, eqL, eqF, binS, arrS, isI, tupS, stor, storL, Value.oneCell', minS, maxS, capS, true_and, and_true, Nat.reduceAdd, Nat.reduceSub, Nat.reduceMul, Nat.reduceLT, Nat.reduceLeDiff, Nat.reduceEqDiff, Nat.reduceBEq, Int.reduceToNat, Int.reduceNeg, Nat.zero_add, Nat.add_zero, Nat.sub_self, Nat.sub_zero, Nat.zero_mul, Nat.mul_one, Nat.zero_le, if_true, if_false, reduceIte, stays, inL, same1, qn, ldN, convN, lenN, List.mem_cons, List.not_mem_nil, Option.map_some, Option.map_none, cond_true, cond_false, Sx.imp_true, Sx.imp_false, implies_true, Int.reduceEq, Int.reduceNe, Int.reduceLE, Int.reduceLT, decide_true, decide_false, List.zipIdx_cons, List.zipIdx_nil, or_false, false_or, forall_eq_or_imp, forall_eq, ne_eq, reduceCtorEq, not_false_eq_true, Bool.false_eq_true, Bool.true_eq_false, Bool.not_true, Bool.not_false, notInt, numB, tabB, ↓Array.reduceGetElem?, res58]
  have fin : ∀ z : Int, z = nat (nib x) → IntoR h.length (SV.int IntKind.u8 z) h K := fun z hz => by
    subst hz
    exact intoR_refl (Nat.le_refl _) hK
  revert fin
  have key : ∀ (R : Int → Prop), (∀ z, z = nat (nib x) → R z) →
      imp (decide (nat x ≥ 48) = true) (imp (decide (nat x ≤ 57) = true) (R (IntKind.u8.wrap (nat x - 48))) ∧ imp (decide (nat x ≤ 57) = false)
          (imp (decide (nat x ≥ 97) = true) (imp (decide (nat x ≤ 102) = true) (R (IntKind.u8.wrap (IntKind.u8.wrap (nat x - 97) + 10))) ∧ imp (decide (nat x ≤ 102) = false) (R 16)) ∧ imp (decide (nat x ≥ 97) = false) (R 16))) ∧
      imp (decide (nat x ≥ 48) = false) (imp (decide (nat x ≥ 97) = true) (imp (decide (nat x ≤ 102) = true) (R (IntKind.u8.wrap (IntKind.u8.wrap (nat x - 97) + 10))) ∧ imp (decide (nat x ≤ 102) = false) (R 16)) ∧ imp (decide (nat x ≥ 97) = false) (R 16)) := by
    intro R hR
    refine ⟨fun h1 => ⟨fun h2 => hR _ ?_, fun h2 => ⟨fun h3 => ⟨fun h4 => hR _ ?_, fun h4 => hR _ ?_⟩, fun h3 => hR _ ?_⟩⟩, fun h1 => ⟨fun h3 => ⟨fun h4 => hR _ ?_, fun h4 => hR _ ?_⟩, fun h3 => hR _ ?_⟩⟩ <;> clear hR hK <;> revert x <;> decide
  intro fin
  exact key (fun z => IntoR h.length (SV.int IntKind.u8 z) h K) fin
end Go.Proofs.Ytbjelfgclhmedaa
