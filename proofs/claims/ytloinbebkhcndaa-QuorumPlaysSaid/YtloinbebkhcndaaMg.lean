/- Texts put together: Contracts of functions that the laws reach, by the symbolic executor of the texts Sxa to Syg. No condition. -/
import Derived.Test.YtloinbebkhcndaaMf
import Derived.Test.YtloinbebkhcndaaMc
set_option linter.all false
set_option maxRecDepth 40000
namespace Go.Proofs.Ytloinbebkhcndaa
open Go Go.Sx

/-- The first vote of all. -/
theorem VotesW.start {h : List Chunk} {p : Nat} {nv : Int} (x : Str) (a : Int) {m s t : Nat} (hp : lookH h p = .cells true [.int .i64 nv, .mp m]) (hm : lookH h m = .map 1 (fun _ => sS x) (fun _ => .ptr s 0) (fun _ => 0) 1)
    (hs : lookH h s = .cells true [.mp t]) (ht : lookH h t = .map 1 (fun _ => .int .i64 a) (fun _ => .int .i64 1) (fun _ => 0) 1) {h' : List Chunk} (hh : h' = putH (putH h m (.map 1 (fun j => sS ([x].getD j default)) (fun _ => .ptr s 0) (fun _ => 0) 1)) t (.map 1 (fun j => .int .i64 ([a].getD j default)) (fun _ => .int .i64 1) (fun _ => 0) 1)) :
    VotesW false h' p nv [(x, [a])] ⟨m, fun _ => s, fun _ => t, fun _ => 0, 1, fun _ _ => 0, fun _ => 1⟩ := by
  have hml := lookH_lt hm (by simp)
  have htl := lookH_lt ht (by simp)
  have hmt : m ≠ t := by
    rintro rfl
    rw [hm] at ht
    injection ht with _ h1
    have := congrFun h1 0
    cases this
  have l : ∀ {k}, k ≠ m → k ≠ t → lookH h' k = lookH h k := fun h1 h2 => by rw [hh, lookH_put_ne _ h2, lookH_put_ne _ h1]
  have hsm : s ≠ m := by rintro rfl; rw [hm] at hs; cases hs
  have hst : s ≠ t := by rintro rfl; rw [ht] at hs; cases hs
  have hpm : p ≠ m := by rintro rfl; rw [hm] at hp; cases hp
  have hpt : p ≠ t := by rintro rfl; rw [ht] at hp; cases hp
  refine ⟨fun e => absurd e (by simp), fun _ => ?_, fun _ => ?_, bn_one, List.pairwise_singleton _ _, fun j hj => ?_, fun j hj => ?_, fun j hj => ?_, fun j hj => ?_, fun j hj => ?_, fun j k hj hk he => ?_⟩
  · rw [l hpm hpt]; exact hp
  · rw [hh, lookH_put_ne _ hmt, lookH_put_same _ hml]; rfl
  · rw [l hsm hst]; exact hs
  · have : j = 0 := by simpa using hj
    subst this
    rw [hh, lookH_put_same _ (by rw [putH_len]; exact htl)]; rfl
  · have : j = 0 := by simpa using hj
    subst this
    exact bn_one
  · have : j = 0 := by simpa using hj
    subst this
    simp [vs]
  · have : j = 0 := by simpa using hj
    subst this
    exact List.pairwise_singleton _ _
  · simp at hj hk
    omega
theorem chSim_trans {a b c : Chunk} (h1 : chSim a b) (h2 : chSim b c) : chSim a c := by
  cases a with
  | map n f v b0 c0 =>
    obtain ⟨f1, v1, b1, rfl, q⟩ := h1
    obtain ⟨f2, v2, b2, rfl, q2⟩ := h2
    exact ⟨f2, v2, b2, rfl, fun j hj => ⟨(q j hj).1.trans (q2 j hj).1, (q j hj).2.1.trans (q2 j hj).2.1, (q j hj).2.2.trans (q2 j hj).2.2⟩⟩
  | row wr n s f =>
    obtain ⟨f1, rfl, q⟩ := h1
    obtain ⟨f2, rfl, q2⟩ := h2
    exact ⟨f2, rfl, fun j hj => (q j hj).trans (q2 j hj)⟩
  | _ => cases h1; exact h2
theorem sim_trans {a b c : List Chunk} (h1 : Sim a b) (h2 : Sim b c) : Sim a c := ⟨h1.1.trans h2.1, fun k => chSim_trans (h1.2 k) (h2.2 k)⟩
theorem Sim.put1 {h : List Chunk} {p : Nat} {c c' : Chunk} (hl : lookH h p = c) (hc : chSim c c') (hp : p < h.length) : Sim h (putH h p c') := ⟨(putH_len _ _ _).symm, fun k => by
  by_cases e : k = p
  · subst e
    rw [lookH_put_same c' hp, hl]
    exact hc
  · rw [lookH_put_ne c' e]
    exact chSim.refl _⟩
/-- What a vote makes of votes. -/
def addT (T : VT) (x : Str) (a : Int) : VT := match (ks T).findIdx? (x == ·) with
  | some i => if a ∈ vs T i then T else T.set i (x, vs T i ++ [a])
  | none => T ++ [(x, [a])]
def newT (T : VT) (x : Str) (a : Int) : Bool := match (ks T).findIdx? (x == ·) with
  | some i => decide (a ∉ vs T i)
  | none => true
/-- Add. -/
theorem c70W (x : Str) (a : Int) {h : List Chunk} {p : Nat} {nv : Int} {T : VT} {W : VW} (hv : VotesW false h p nv T W) (K : Tok → SV → List Chunk → Prop) (hbad : a < 0 ∨ nv ≤ a → K .mk (.bool false) h)
    (hok : 0 ≤ a → a < nv → ∀ h' W', VotesW false h' p nv (addT T x a) W' → Ext (foot T W p) h h' → (∀ k, foot (addT T x a) W' p k → foot T W p k ∨ h.length ≤ k) → K .mk (.bool (newT T x a)) h') : callP Try.prog 70 [.ptr p 0, .int .i64 a, .str ⟨⟨x⟩⟩] h K := by
  obtain ⟨fs, hp, hfs⟩ : ∃ f1, lookH h p = .cells true [.int .i64 nv, f1] ∧ True := by
    by_cases e : T = []
    · exact ⟨_, hv.nil e, trivial⟩
    · exact ⟨_, hv.top e, trivial⟩
  refine callP_of_code tabOk Try.func70 (by kernel_rfl) rfl (Nat.le_of_ble_eq_true rfl) (codeP_of_vc (pl := pl70) tabOk follows_mixed (by kernel_rfl) ?_)
  rw [Try.ntmps70]
  by_cases hb : a < 0 ∨ nv ≤ a
  · rcases Classical.em (a < 0) with h0 | h0
    · have g1 : decide (a < 0) = true := decide_eq_true h0
      simp -implicitDefEqProofs (maxSteps := 1000000) (disch := omega) only [↓vcB, ↓gd, ↓opP, ↓qv, ↓ef, ↓bslS, ↓stS, ↓mkS, ↓rangeS, ↓nextS, ↓entryS, ↓delS, ↓mupS, ↓appS, ↓s2bS, ↓resS, evB, Sx.look, slot, ↓lkL, putS, putO, argsL, ↓reduceIte, ofV, of1, lookH, putH, List.length_cons, List.length_nil, List.length_append, List.replicate, List.append, List.cons_append, List.nil_append, List.append_assoc, List.map_cons, List.map_nil, convS, fldA, nthT, idxA, idxS, fldS, oslN, bnd, slS, unS, valI, lenS, lookS, takeC, psB, asRow, csB, Int.toNat_natCast, Int.le_refl, and_self, rdF, Ent.row, ldS, sz, szL, wrF, bldF, plT, bldS, srcS, nilS, nilEq, mapC, binH, binS2, structS, eqL, eqF, binS, arrS, isI, tupS, stor, storL, Value.oneCell', minS, maxS, capS, true_and, and_true, Nat.reduceAdd, Nat.reduceSub, Nat.reduceMul, Nat.reduceLT, Nat.reduceLeDiff, Nat.reduceEqDiff, Nat.reduceBEq, Int.reduceToNat, Int.reduceNeg, Nat.zero_add, Nat.add_zero, Nat.sub_self, Nat.sub_zero, Nat.zero_mul, Nat.mul_one, Nat.zero_le, if_true, if_false, reduceIte, stays, inL, same1, qn, ldN, convN, lenN, List.mem_cons, List.not_mem_nil, Option.map_some, Option.map_none, cond_true, cond_false, Sx.imp_true, Sx.imp_false, implies_true, Int.reduceEq, Int.reduceNe, Int.reduceLE, Int.reduceLT, decide_true, decide_false, List.zipIdx_cons, List.zipIdx_nil, or_false, false_or, forall_eq_or_imp, forall_eq, ne_eq, reduceCtorEq, not_false_eq_true, Bool.false_eq_true, Bool.true_eq_false, Bool.not_true, Bool.not_false, notInt, numB, tabB, Array.reduceGetElem?, upG, up, nth, lay, rcB, rnm, rnmL, wrB, pcB, res70, pl70, g1, hp, csz_nilFunc, Value.oneCell', Option.isNone]
      exact intoR_refl (Nat.le_refl _) (hbad hb)
    · have g1 : decide (a < 0) = false := decide_eq_false h0
      have g2 : decide (a ≥ nv) = true := decide_eq_true (by omega)
      simp -implicitDefEqProofs (maxSteps := 1000000) (disch := omega) only [↓vcB, ↓gd, ↓opP, ↓qv, ↓ef, ↓bslS, ↓stS, ↓mkS, ↓rangeS, ↓nextS, ↓entryS, ↓delS, ↓mupS, ↓appS, ↓s2bS, ↓resS, evB, Sx.look, slot, ↓lkL, putS, putO, argsL, ↓reduceIte, ofV, of1, lookH, putH, List.length_cons, List.length_nil, List.length_append, List.replicate, List.append, List.cons_append, List.nil_append, List.append_assoc, List.map_cons, List.map_nil, convS, fldA, nthT, idxA, idxS, fldS, oslN, bnd, slS, unS, valI, lenS, lookS, takeC, psB, asRow, csB, Int.toNat_natCast, Int.le_refl, and_self, rdF, Ent.row, ldS, sz, szL, wrF, bldF, plT, bldS, srcS, nilS, nilEq, mapC, binH, binS2, structS, eqL, eqF, binS, arrS, isI, tupS, stor, storL, Value.oneCell', minS, maxS, capS, true_and, and_true, Nat.reduceAdd, Nat.reduceSub, Nat.reduceMul, Nat.reduceLT, Nat.reduceLeDiff, Nat.reduceEqDiff, Nat.reduceBEq, Int.reduceToNat, Int.reduceNeg, Nat.zero_add, Nat.add_zero, Nat.sub_self, Nat.sub_zero, Nat.zero_mul, Nat.mul_one, Nat.zero_le, if_true, if_false, reduceIte, stays, inL, same1, qn, ldN, convN, lenN, List.mem_cons, List.not_mem_nil, Option.map_some, Option.map_none, cond_true, cond_false, Sx.imp_true, Sx.imp_false, implies_true, Int.reduceEq, Int.reduceNe, Int.reduceLE, Int.reduceLT, decide_true, decide_false, List.zipIdx_cons, List.zipIdx_nil, or_false, false_or, forall_eq_or_imp, forall_eq, ne_eq, reduceCtorEq, not_false_eq_true, Bool.false_eq_true, Bool.true_eq_false, Bool.not_true, Bool.not_false, notInt, numB, tabB, Array.reduceGetElem?, upG, up, nth, lay, rcB, rnm, rnmL, wrB, pcB, res70, pl70, g1, g2, hp, csz_nilFunc, Value.oneCell', Option.isNone]
      exact intoR_refl (Nat.le_refl _) (hbad hb)
  · have g1 : decide (a < 0) = false := decide_eq_false (by omega)
    have g2 : decide (a ≥ nv) = false := decide_eq_false (by omega)
    have hok := hok (by omega) (by omega)
    unfold addT newT at hok
    simp -implicitDefEqProofs (maxSteps := 1000000) (disch := omega) only [↓vcB, ↓gd, ↓opP, ↓qv, ↓ef, ↓bslS, ↓stS, ↓mkS, ↓rangeS, ↓nextS, ↓entryS, ↓delS, ↓mupS, ↓appS, ↓s2bS, ↓resS, evB, Sx.look, slot, ↓lkL, putS, putO, argsL, ↓reduceIte, ofV, of1, lookH, putH, List.length_cons, List.length_nil, List.length_append, List.replicate, List.append, List.cons_append, List.nil_append, List.append_assoc, List.map_cons, List.map_nil, convS, fldA, nthT, idxA, idxS, fldS, oslN, bnd, slS, unS, valI, lenS, lookS, takeC, psB, asRow, csB, Int.toNat_natCast, Int.le_refl, and_self, rdF, Ent.row, ldS, sz, szL, wrF, bldF, plT, bldS, srcS, nilS, nilEq, mapC, binH, binS2, structS, eqL, eqF, binS, arrS, isI, tupS, stor, storL, Value.oneCell', minS, maxS, capS, true_and, and_true, Nat.reduceAdd, Nat.reduceSub, Nat.reduceMul, Nat.reduceLT, Nat.reduceLeDiff, Nat.reduceEqDiff, Nat.reduceBEq, Int.reduceToNat, Int.reduceNeg, Nat.zero_add, Nat.add_zero, Nat.sub_self, Nat.sub_zero, Nat.zero_mul, Nat.mul_one, Nat.zero_le, if_true, if_false, reduceIte, stays, inL, same1, qn, ldN, convN, lenN, List.mem_cons, List.not_mem_nil, Option.map_some, Option.map_none, cond_true, cond_false, Sx.imp_true, Sx.imp_false, implies_true, Int.reduceEq, Int.reduceNe, Int.reduceLE, Int.reduceLT, decide_true, decide_false, List.zipIdx_cons, List.zipIdx_nil, or_false, false_or, forall_eq_or_imp, forall_eq, ne_eq, reduceCtorEq, not_false_eq_true, Bool.false_eq_true, Bool.true_eq_false, Bool.not_true, Bool.not_false, notInt, numB, tabB, Array.reduceGetElem?, upG, up, nth, lay, rcB, rnm, rnmL, wrB, pcB, res70, pl70, g1, g2, hp, csz_nilFunc, Value.oneCell', Option.isNone]
    refine c93W x hv _ ?_
    cases hq : (ks T).findIdx? (x == ·) with
    | some i =>
      rw [hq] at hok
      obtain ⟨hi0, hx⟩ := find_some hq
      have hi : i < T.length := by rwa [ks_len] at hi0
      simp -implicitDefEqProofs (maxSteps := 1000000) (disch := omega) only [↓vcB, ↓gd, ↓opP, ↓qv, ↓ef, ↓bslS, ↓stS, ↓mkS, ↓rangeS, ↓nextS, ↓entryS, ↓delS, ↓mupS, ↓appS, ↓s2bS, ↓resS, evB, Sx.look, slot, ↓lkL, putS, putO, argsL, ↓reduceIte, ofV, of1, lookH, putH, List.length_cons, List.length_nil, List.length_append, List.replicate, List.append, List.cons_append, List.nil_append, List.append_assoc, List.map_cons, List.map_nil, convS, fldA, nthT, idxA, idxS, fldS, oslN, bnd, slS, unS, valI, lenS, lookS, takeC, psB, asRow, csB, Int.toNat_natCast, Int.le_refl, and_self, rdF, Ent.row, ldS, sz, szL, wrF, bldF, plT, bldS, srcS, nilS, nilEq, mapC, binH, binS2, structS, eqL, eqF, binS, arrS, isI, tupS, stor, storL, Value.oneCell', minS, maxS, capS, true_and, and_true, Nat.reduceAdd, Nat.reduceSub, Nat.reduceMul, Nat.reduceLT, Nat.reduceLeDiff, Nat.reduceEqDiff, Nat.reduceBEq, Int.reduceToNat, Int.reduceNeg, Nat.zero_add, Nat.add_zero, Nat.sub_self, Nat.sub_zero, Nat.zero_mul, Nat.mul_one, Nat.zero_le, if_true, if_false, reduceIte, stays, inL, same1, qn, ldN, convN, lenN, List.mem_cons, List.not_mem_nil, Option.map_some, Option.map_none, cond_true, cond_false, Sx.imp_true, Sx.imp_false, implies_true, Int.reduceEq, Int.reduceNe, Int.reduceLE, Int.reduceLT, decide_true, decide_false, List.zipIdx_cons, List.zipIdx_nil, or_false, false_or, forall_eq_or_imp, forall_eq, ne_eq, reduceCtorEq, not_false_eq_true, Bool.false_eq_true, Bool.true_eq_false, Bool.not_true, Bool.not_false, notInt, numB, tabB, Array.reduceGetElem?, upG, up, nth, lay, rcB, rnm, rnmL, wrB, pcB, res70, pl70, g1, g2, hp, csz_nilFunc, Value.oneCell', Option.isNone]
      by_cases ha : a ∈ vs T i
      · refine c51p a (vs T i) _ (W.s i) (W.t i) true (W.bs i) (W.cs i) (hv.set i hi) (hv.mp i hi) ha _ ?_
        simp -implicitDefEqProofs (maxSteps := 1000000) (disch := omega) only [↓vcB, ↓gd, ↓opP, ↓qv, ↓ef, ↓bslS, ↓stS, ↓mkS, ↓rangeS, ↓nextS, ↓entryS, ↓delS, ↓mupS, ↓appS, ↓s2bS, ↓resS, evB, Sx.look, slot, ↓lkL, putS, putO, argsL, ↓reduceIte, ofV, of1, lookH, putH, List.length_cons, List.length_nil, List.length_append, List.replicate, List.append, List.cons_append, List.nil_append, List.append_assoc, List.map_cons, List.map_nil, convS, fldA, nthT, idxA, idxS, fldS, oslN, bnd, slS, unS, valI, lenS, lookS, takeC, psB, asRow, csB, Int.toNat_natCast, Int.le_refl, and_self, rdF, Ent.row, ldS, sz, szL, wrF, bldF, plT, bldS, srcS, nilS, nilEq, mapC, binH, binS2, structS, eqL, eqF, binS, arrS, isI, tupS, stor, storL, Value.oneCell', minS, maxS, capS, true_and, and_true, Nat.reduceAdd, Nat.reduceSub, Nat.reduceMul, Nat.reduceLT, Nat.reduceLeDiff, Nat.reduceEqDiff, Nat.reduceBEq, Int.reduceToNat, Int.reduceNeg, Nat.zero_add, Nat.add_zero, Nat.sub_self, Nat.sub_zero, Nat.zero_mul, Nat.mul_one, Nat.zero_le, if_true, if_false, reduceIte, stays, inL, same1, qn, ldN, convN, lenN, List.mem_cons, List.not_mem_nil, Option.map_some, Option.map_none, cond_true, cond_false, Sx.imp_true, Sx.imp_false, implies_true, Int.reduceEq, Int.reduceNe, Int.reduceLE, Int.reduceLT, decide_true, decide_false, List.zipIdx_cons, List.zipIdx_nil, or_false, false_or, forall_eq_or_imp, forall_eq, ne_eq, reduceCtorEq, not_false_eq_true, Bool.false_eq_true, Bool.true_eq_false, Bool.not_true, Bool.not_false, notInt, numB, tabB, Array.reduceGetElem?, upG, up, nth, lay, rcB, rnm, rnmL, wrB, pcB, res70, pl70, g1, g2, hp, csz_nilFunc, Value.oneCell', Option.isNone]
        have d1 : decide (a ∉ vs T i) = false := decide_eq_false (fun h => h ha)
        simp only [if_pos ha, d1] at hok
        exact intoR_refl (Nat.le_refl _) (hok h W hv (Ext.refl _ _) fun k hk => .inl hk)
      · refine callP_sim (c51a a (vs T i) _ (W.s i) (W.t i) true (W.bs i) (W.cs i) (hv.set i hi) (hv.mp i hi) ha _ ?_)
        refine ⟨putH h (W.t i) (.map (vs T i ++ [a]).length (fun j => .int .i64 ((vs T i ++ [a]).getD j default)) (fun _ => .int .i64 1) (fun j => if j < (vs T i).length then W.bs i j else W.cs i) (W.cs i + 1)), ?_, Sim.put ?_ (lookH_lt (hv.mp i hi) (mpR_ne _ _ _ _ _ _))⟩
        · simp -implicitDefEqProofs (maxSteps := 1000000) (disch := omega) only [↓vcB, ↓gd, ↓opP, ↓qv, ↓ef, ↓bslS, ↓stS, ↓mkS, ↓rangeS, ↓nextS, ↓entryS, ↓delS, ↓mupS, ↓appS, ↓s2bS, ↓resS, evB, Sx.look, slot, ↓lkL, putS, putO, argsL, ↓reduceIte, ofV, of1, lookH, putH, List.length_cons, List.length_nil, List.length_append, List.replicate, List.append, List.cons_append, List.nil_append, List.append_assoc, List.map_cons, List.map_nil, convS, fldA, nthT, idxA, idxS, fldS, oslN, bnd, slS, unS, valI, lenS, lookS, takeC, psB, asRow, csB, Int.toNat_natCast, Int.le_refl, and_self, rdF, Ent.row, ldS, sz, szL, wrF, bldF, plT, bldS, srcS, nilS, nilEq, mapC, binH, binS2, structS, eqL, eqF, binS, arrS, isI, tupS, stor, storL, Value.oneCell', minS, maxS, capS, true_and, and_true, Nat.reduceAdd, Nat.reduceSub, Nat.reduceMul, Nat.reduceLT, Nat.reduceLeDiff, Nat.reduceEqDiff, Nat.reduceBEq, Int.reduceToNat, Int.reduceNeg, Nat.zero_add, Nat.add_zero, Nat.sub_self, Nat.sub_zero, Nat.zero_mul, Nat.mul_one, Nat.zero_le, if_true, if_false, reduceIte, stays, inL, same1, qn, ldN, convN, lenN, List.mem_cons, List.not_mem_nil, Option.map_some, Option.map_none, cond_true, cond_false, Sx.imp_true, Sx.imp_false, implies_true, Int.reduceEq, Int.reduceNe, Int.reduceLE, Int.reduceLT, decide_true, decide_false, List.zipIdx_cons, List.zipIdx_nil, or_false, false_or, forall_eq_or_imp, forall_eq, ne_eq, reduceCtorEq, not_false_eq_true, Bool.false_eq_true, Bool.true_eq_false, Bool.not_true, Bool.not_false, notInt, numB, tabB, Array.reduceGetElem?, upG, up, nth, lay, rcB, rnm, rnmL, wrB, pcB, res70, pl70, g1, g2, hp, csz_nilFunc, Value.oneCell', Option.isNone]
          have d1 : decide (a ∉ vs T i) = true := decide_eq_true ha
          simp only [if_neg ha, d1] at hok
          have hgr := hv.grow hi hx ha
          rw [List.length_append, List.length_singleton] at hgr
          refine intoR_refl (by rw [putH_len]; exact Nat.le_refl _) (hok _ _ hgr ((Ext.refl _ _).put _ (.inl (.inr (.inr ⟨i, hi, .inr rfl⟩)))) fun k hk => .inl ?_)
          rcases hk with h1 | ⟨_, h1⟩ | ⟨j, hj, h1⟩
          · exact .inl h1
          · exact .inr (.inl ⟨(fun e => by rw [e] at hi; cases hi), h1⟩)
          · exact .inr (.inr ⟨j, by simpa using hj, h1⟩)
        · rw [List.length_append, List.length_singleton]
          refine ⟨_, _, _, rfl, fun j hj => ⟨?_, rfl, rfl⟩⟩
          by_cases e : j < (vs T i).length
          · simp only [if_pos e, List.getD_eq_getElem?_getD, List.getElem?_append_left e]
          · obtain rfl : j = (vs T i).length := by omega
            simp
    | none =>
      rw [hq] at hok
      have hx : x ∉ ks T := find_none.1 hq
      simp -implicitDefEqProofs (maxSteps := 1000000) (disch := omega) only [↓vcB, ↓gd, ↓opP, ↓qv, ↓ef, ↓bslS, ↓stS, ↓mkS, ↓rangeS, ↓nextS, ↓entryS, ↓delS, ↓mupS, ↓appS, ↓s2bS, ↓resS, evB, Sx.look, slot, ↓lkL, putS, putO, argsL, ↓reduceIte, ofV, of1, lookH, putH, List.length_cons, List.length_nil, List.length_append, List.replicate, List.append, List.cons_append, List.nil_append, List.append_assoc, List.map_cons, List.map_nil, convS, fldA, nthT, idxA, idxS, fldS, oslN, bnd, slS, unS, valI, lenS, lookS, takeC, psB, asRow, csB, Int.toNat_natCast, Int.le_refl, and_self, rdF, Ent.row, ldS, sz, szL, wrF, bldF, plT, bldS, srcS, nilS, nilEq, mapC, binH, binS2, structS, eqL, eqF, binS, arrS, isI, tupS, stor, storL, Value.oneCell', minS, maxS, capS, true_and, and_true, Nat.reduceAdd, Nat.reduceSub, Nat.reduceMul, Nat.reduceLT, Nat.reduceLeDiff, Nat.reduceEqDiff, Nat.reduceBEq, Int.reduceToNat, Int.reduceNeg, Nat.zero_add, Nat.add_zero, Nat.sub_self, Nat.sub_zero, Nat.zero_mul, Nat.mul_one, Nat.zero_le, if_true, if_false, reduceIte, stays, inL, same1, qn, ldN, convN, lenN, List.mem_cons, List.not_mem_nil, Option.map_some, Option.map_none, cond_true, cond_false, Sx.imp_true, Sx.imp_false, implies_true, Int.reduceEq, Int.reduceNe, Int.reduceLE, Int.reduceLT, decide_true, decide_false, List.zipIdx_cons, List.zipIdx_nil, or_false, false_or, forall_eq_or_imp, forall_eq, ne_eq, reduceCtorEq, not_false_eq_true, Bool.false_eq_true, Bool.true_eq_false, Bool.not_true, Bool.not_false, notInt, numB, tabB, Array.reduceGetElem?, upG, up, nth, lay, rcB, rnm, rnmL, wrB, pcB, res70, pl70, g1, g2, hp, csz_nilFunc, Value.oneCell', Option.isNone]
      refine c50n _ _ ?_
      simp -implicitDefEqProofs (maxSteps := 1000000) (disch := omega) only [↓vcB, ↓gd, ↓opP, ↓qv, ↓ef, ↓bslS, ↓stS, ↓mkS, ↓rangeS, ↓nextS, ↓entryS, ↓delS, ↓mupS, ↓appS, ↓s2bS, ↓resS, evB, Sx.look, slot, ↓lkL, putS, putO, argsL, ↓reduceIte, ofV, of1, lookH, putH, List.length_cons, List.length_nil, List.length_append, List.replicate, List.append, List.cons_append, List.nil_append, List.append_assoc, List.map_cons, List.map_nil, convS, fldA, nthT, idxA, idxS, fldS, oslN, bnd, slS, unS, valI, lenS, lookS, takeC, psB, asRow, csB, Int.toNat_natCast, Int.le_refl, and_self, rdF, Ent.row, ldS, sz, szL, wrF, bldF, plT, bldS, srcS, nilS, nilEq, mapC, binH, binS2, structS, eqL, eqF, binS, arrS, isI, tupS, stor, storL, Value.oneCell', minS, maxS, capS, true_and, and_true, Nat.reduceAdd, Nat.reduceSub, Nat.reduceMul, Nat.reduceLT, Nat.reduceLeDiff, Nat.reduceEqDiff, Nat.reduceBEq, Int.reduceToNat, Int.reduceNeg, Nat.zero_add, Nat.add_zero, Nat.sub_self, Nat.sub_zero, Nat.zero_mul, Nat.mul_one, Nat.zero_le, if_true, if_false, reduceIte, stays, inL, same1, qn, ldN, convN, lenN, List.mem_cons, List.not_mem_nil, Option.map_some, Option.map_none, cond_true, cond_false, Sx.imp_true, Sx.imp_false, implies_true, Int.reduceEq, Int.reduceNe, Int.reduceLE, Int.reduceLT, decide_true, decide_false, List.zipIdx_cons, List.zipIdx_nil, or_false, false_or, forall_eq_or_imp, forall_eq, ne_eq, reduceCtorEq, not_false_eq_true, Bool.false_eq_true, Bool.true_eq_false, Bool.not_true, Bool.not_false, notInt, numB, tabB, Array.reduceGetElem?, upG, up, nth, lay, rcB, rnm, rnmL, wrB, pcB, res70, pl70, g1, g2, hp, csz_nilFunc, Value.oneCell', Option.isNone]
      obtain ⟨h1, hh1⟩ : ∃ h1, h1 = h ++ [Chunk.cells true [.v (.map none)]] := ⟨_, rfl⟩
      rw [← hh1]
      have l1 : h1.length = h.length + 1 := by rw [hh1]; simp
      have o1 : ∀ {k}, k < h.length → lookH h1 k = lookH h k := fun hk => by rw [hh1]; exact lookH_at _ hk
      have e1 : lookH h1 h.length = .cells true [.v (.map none)] := by rw [hh1]; exact lookH_app0 _ _
      have hpl := foot_lt hv (k := p) (.inl rfl)
      by_cases hT : T = []
      · have hp1 : lookH h1 p = .cells true [.int .i64 nv, .v (.map none)] := (o1 hpl).trans (hv.nil hT)
        refine c94n x _ nv h1 p hp1 _ ?_
        obtain ⟨h2, hh2⟩ : ∃ h2, h2 = putH h1 p (.cells true [.int .i64 nv, .mp h1.length]) ++ [.map 1 (fun _ => sS x) (fun _ => .ptr h.length 0) (fun _ => 0) 1] := ⟨_, rfl⟩
        rw [← hh2]
        have l2 : h2.length = h.length + 2 := by rw [hh2, List.length_append, putH_len, l1]; rfl
        have o2 : ∀ {k}, k < h1.length → k ≠ p → lookH h2 k = lookH h1 k := fun hk hn => by rw [hh2, lookH_at _ (by rw [putH_len]; exact hk), lookH_put_ne _ hn]
        have e2 : lookH h2 h.length = .cells true [.v (.map none)] := (o2 (by omega) (by omega)).trans e1
        simp -implicitDefEqProofs (maxSteps := 1000000) (disch := omega) only [↓vcB, ↓gd, ↓opP, ↓qv, ↓ef, ↓bslS, ↓stS, ↓mkS, ↓rangeS, ↓nextS, ↓entryS, ↓delS, ↓mupS, ↓appS, ↓s2bS, ↓resS, evB, Sx.look, slot, ↓lkL, putS, putO, argsL, ↓reduceIte, ofV, of1, lookH, putH, List.length_cons, List.length_nil, List.length_append, List.replicate, List.append, List.cons_append, List.nil_append, List.append_assoc, List.map_cons, List.map_nil, convS, fldA, nthT, idxA, idxS, fldS, oslN, bnd, slS, unS, valI, lenS, lookS, takeC, psB, asRow, csB, Int.toNat_natCast, Int.le_refl, and_self, rdF, Ent.row, ldS, sz, szL, wrF, bldF, plT, bldS, srcS, nilS, nilEq, mapC, binH, binS2, structS, eqL, eqF, binS, arrS, isI, tupS, stor, storL, Value.oneCell', minS, maxS, capS, true_and, and_true, Nat.reduceAdd, Nat.reduceSub, Nat.reduceMul, Nat.reduceLT, Nat.reduceLeDiff, Nat.reduceEqDiff, Nat.reduceBEq, Int.reduceToNat, Int.reduceNeg, Nat.zero_add, Nat.add_zero, Nat.sub_self, Nat.sub_zero, Nat.zero_mul, Nat.mul_one, Nat.zero_le, if_true, if_false, reduceIte, stays, inL, same1, qn, ldN, convN, lenN, List.mem_cons, List.not_mem_nil, Option.map_some, Option.map_none, cond_true, cond_false, Sx.imp_true, Sx.imp_false, implies_true, Int.reduceEq, Int.reduceNe, Int.reduceLE, Int.reduceLT, decide_true, decide_false, List.zipIdx_cons, List.zipIdx_nil, or_false, false_or, forall_eq_or_imp, forall_eq, ne_eq, reduceCtorEq, not_false_eq_true, Bool.false_eq_true, Bool.true_eq_false, Bool.not_true, Bool.not_false, notInt, numB, tabB, Array.reduceGetElem?, upG, up, nth, lay, rcB, rnm, rnmL, wrB, pcB, res70, pl70, g1, g2, hp, csz_nilFunc, Value.oneCell', Option.isNone]
        refine callP_sim (c51n a h2 h.length e2 _ ?_)
        obtain ⟨h3, hh3⟩ : ∃ h3, h3 = putH h2 h.length (.cells true [.mp h2.length]) ++ [.map 1 (fun _ => .int .i64 a) (fun _ => .int .i64 1) (fun _ => 0) 1] := ⟨_, rfl⟩
        rw [← hh3]
        have l3 : h3.length = h.length + 3 := by rw [hh3, List.length_append, putH_len, l2]; rfl
        have f1 : lookH h3 p = .cells true [.int .i64 nv, .mp h1.length] := by rw [hh3, lookH_at _ (by rw [putH_len]; omega), lookH_put_ne _ (by omega), hh2, lookH_at _ (by rw [putH_len]; omega), lookH_put_same _ (by omega)]
        have f2 : lookH h3 h1.length = .map 1 (fun _ => sS x) (fun _ => .ptr h.length 0) (fun _ => 0) 1 := by
          rw [hh3, lookH_at _ (by rw [putH_len]; omega), lookH_put_ne _ (by omega), hh2]
          have q := lookH_app0 [Chunk.map 1 (fun _ => sS x) (fun _ => .ptr h.length 0) (fun _ => 0) 1] (putH h1 p (.cells true [.int .i64 nv, .mp h1.length]))
          rw [putH_len] at q
          exact q
        have f3 : lookH h3 h.length = .cells true [.mp h2.length] := by rw [hh3, lookH_at _ (by rw [putH_len]; omega), lookH_put_same _ (by omega)]
        have f4 : lookH h3 h2.length = .map 1 (fun _ => .int .i64 a) (fun _ => .int .i64 1) (fun _ => 0) 1 := by
          rw [hh3]
          have q := lookH_app0 [Chunk.map 1 (fun _ => .int .i64 a) (fun _ => .int .i64 1) (fun _ => 0) 1] (putH h2 h.length (.cells true [.mp h2.length]))
          rw [putH_len] at q
          exact q
        have hst := VotesW.start x a f1 f2 f3 f4 rfl
        refine ⟨putH (putH h3 h1.length (.map 1 (fun j => sS ([x].getD j default)) (fun _ => .ptr h.length 0) (fun _ => 0) 1)) h2.length (.map 1 (fun j => .int .i64 ([a].getD j default)) (fun _ => .int .i64 1) (fun _ => 0) 1), ?_, ?_⟩
        · simp -implicitDefEqProofs (maxSteps := 1000000) (disch := omega) only [↓vcB, ↓gd, ↓opP, ↓qv, ↓ef, ↓bslS, ↓stS, ↓mkS, ↓rangeS, ↓nextS, ↓entryS, ↓delS, ↓mupS, ↓appS, ↓s2bS, ↓resS, evB, Sx.look, slot, ↓lkL, putS, putO, argsL, ↓reduceIte, ofV, of1, lookH, putH, List.length_cons, List.length_nil, List.length_append, List.replicate, List.append, List.cons_append, List.nil_append, List.append_assoc, List.map_cons, List.map_nil, convS, fldA, nthT, idxA, idxS, fldS, oslN, bnd, slS, unS, valI, lenS, lookS, takeC, psB, asRow, csB, Int.toNat_natCast, Int.le_refl, and_self, rdF, Ent.row, ldS, sz, szL, wrF, bldF, plT, bldS, srcS, nilS, nilEq, mapC, binH, binS2, structS, eqL, eqF, binS, arrS, isI, tupS, stor, storL, Value.oneCell', minS, maxS, capS, true_and, and_true, Nat.reduceAdd, Nat.reduceSub, Nat.reduceMul, Nat.reduceLT, Nat.reduceLeDiff, Nat.reduceEqDiff, Nat.reduceBEq, Int.reduceToNat, Int.reduceNeg, Nat.zero_add, Nat.add_zero, Nat.sub_self, Nat.sub_zero, Nat.zero_mul, Nat.mul_one, Nat.zero_le, if_true, if_false, reduceIte, stays, inL, same1, qn, ldN, convN, lenN, List.mem_cons, List.not_mem_nil, Option.map_some, Option.map_none, cond_true, cond_false, Sx.imp_true, Sx.imp_false, implies_true, Int.reduceEq, Int.reduceNe, Int.reduceLE, Int.reduceLT, decide_true, decide_false, List.zipIdx_cons, List.zipIdx_nil, or_false, false_or, forall_eq_or_imp, forall_eq, ne_eq, reduceCtorEq, not_false_eq_true, Bool.false_eq_true, Bool.true_eq_false, Bool.not_true, Bool.not_false, notInt, numB, tabB, Array.reduceGetElem?, upG, up, nth, lay, rcB, rnm, rnmL, wrB, pcB, res70, pl70, g1, g2, hp, csz_nilFunc, Value.oneCell', Option.isNone]
          subst hT
          simp only at hok
          refine intoR_refl (by rw [putH_len, putH_len]; omega) (hok _ _ hst ?_ ?_)
          · refine Ext.put (Ext.put ?_ _ (.inr (by omega))) _ (.inr (by omega))
            rw [hh3]
            refine Ext.app (Ext.put ?_ _ (.inr (by omega))) _
            rw [hh2]
            refine Ext.app (Ext.put ?_ _ (.inl (.inl rfl))) _
            rw [hh1]
            exact (Ext.refl _ _).app _
          · rintro k (h1 | ⟨_, h1⟩ | ⟨j, hj, h1 | h1⟩)
            · exact .inl (.inl h1)
            · simp only at h1
              exact .inr (by omega)
            · simp only at h1
              exact .inr (by omega)
            · simp only at h1
              exact .inr (by omega)
        · refine sim_trans (Sim.put1 f2 ?_ (by omega)) (Sim.put1 (p := h2.length) (c := .map 1 (fun _ => .int .i64 a) (fun _ => .int .i64 1) (fun _ => 0) 1) (by rw [lookH_put_ne _ (by omega)]; exact f4) ?_ (by rw [putH_len]; omega))
          · refine ⟨_, _, _, rfl, fun j hj => ⟨?_, rfl, rfl⟩⟩
            obtain rfl : j = 0 := by omega
            rfl
          · refine ⟨_, _, _, rfl, fun j hj => ⟨?_, rfl, rfl⟩⟩
            obtain rfl : j = 0 := by omega
            rfl
      · have hml : W.m < h.length := foot_lt hv (.inr (.inl ⟨hT, rfl⟩))
        have hp1 : lookH h1 p = .cells true [.int .i64 nv, .mp W.m] := (o1 hpl).trans (hv.top hT)
        have hm1 : lookH h1 W.m = .map (ks T).length (fun i => sS ((ks T).getD i default)) (fun i => .ptr (W.s i) 0) W.born W.clock := (o1 hml).trans (hv.tab hT)
        refine c94a x _ (ks T) nv h1 p W.m true _ W.born W.clock hp1 hm1 hx _ ?_
        obtain ⟨h2, hh2⟩ : ∃ h2, h2 = putH h1 W.m (.map ((ks T).length + 1) (fun j => if j < (ks T).length then sS ((ks T).getD j default) else sS x) (fun j => if j < (ks T).length then .ptr (W.s j) 0 else .ptr h.length 0) (fun j => if j < (ks T).length then W.born j else W.clock) (W.clock + 1)) := ⟨_, rfl⟩
        rw [← hh2]
        have l2 : h2.length = h.length + 1 := by rw [hh2, putH_len, l1]
        have o2 : ∀ {k}, k ≠ W.m → lookH h2 k = lookH h1 k := fun hn => by rw [hh2, lookH_put_ne _ hn]
        have e2 : lookH h2 h.length = .cells true [.v (.map none)] := (o2 (by omega)).trans e1
        simp -implicitDefEqProofs (maxSteps := 1000000) (disch := omega) only [↓vcB, ↓gd, ↓opP, ↓qv, ↓ef, ↓bslS, ↓stS, ↓mkS, ↓rangeS, ↓nextS, ↓entryS, ↓delS, ↓mupS, ↓appS, ↓s2bS, ↓resS, evB, Sx.look, slot, ↓lkL, putS, putO, argsL, ↓reduceIte, ofV, of1, lookH, putH, List.length_cons, List.length_nil, List.length_append, List.replicate, List.append, List.cons_append, List.nil_append, List.append_assoc, List.map_cons, List.map_nil, convS, fldA, nthT, idxA, idxS, fldS, oslN, bnd, slS, unS, valI, lenS, lookS, takeC, psB, asRow, csB, Int.toNat_natCast, Int.le_refl, and_self, rdF, Ent.row, ldS, sz, szL, wrF, bldF, plT, bldS, srcS, nilS, nilEq, mapC, binH, binS2, structS, eqL, eqF, binS, arrS, isI, tupS, stor, storL, Value.oneCell', minS, maxS, capS, true_and, and_true, Nat.reduceAdd, Nat.reduceSub, Nat.reduceMul, Nat.reduceLT, Nat.reduceLeDiff, Nat.reduceEqDiff, Nat.reduceBEq, Int.reduceToNat, Int.reduceNeg, Nat.zero_add, Nat.add_zero, Nat.sub_self, Nat.sub_zero, Nat.zero_mul, Nat.mul_one, Nat.zero_le, if_true, if_false, reduceIte, stays, inL, same1, qn, ldN, convN, lenN, List.mem_cons, List.not_mem_nil, Option.map_some, Option.map_none, cond_true, cond_false, Sx.imp_true, Sx.imp_false, implies_true, Int.reduceEq, Int.reduceNe, Int.reduceLE, Int.reduceLT, decide_true, decide_false, List.zipIdx_cons, List.zipIdx_nil, or_false, false_or, forall_eq_or_imp, forall_eq, ne_eq, reduceCtorEq, not_false_eq_true, Bool.false_eq_true, Bool.true_eq_false, Bool.not_true, Bool.not_false, notInt, numB, tabB, Array.reduceGetElem?, upG, up, nth, lay, rcB, rnm, rnmL, wrB, pcB, res70, pl70, g1, g2, hp, csz_nilFunc, Value.oneCell', Option.isNone]
        refine callP_sim (c51n a h2 h.length e2 _ ?_)
        obtain ⟨h3, hh3⟩ : ∃ h3, h3 = putH h2 h.length (.cells true [.mp h2.length]) ++ [.map 1 (fun _ => .int .i64 a) (fun _ => .int .i64 1) (fun _ => 0) 1] := ⟨_, rfl⟩
        rw [← hh3]
        have l3 : h3.length = h.length + 2 := by rw [hh3, List.length_append, putH_len, l2]; rfl
        have f2 : lookH h3 W.m = .map ((ks T).length + 1) (fun j => if j < (ks T).length then sS ((ks T).getD j default) else sS x) (fun j => if j < (ks T).length then .ptr (W.s j) 0 else .ptr h.length 0) (fun j => if j < (ks T).length then W.born j else W.clock) (W.clock + 1) := by
          rw [hh3, lookH_at _ (by rw [putH_len]; omega), lookH_put_ne _ (by omega), hh2, lookH_put_same _ (by omega)]
        have f3 : lookH h3 h.length = .cells true [.mp (h.length + 1)] := by rw [hh3, lookH_at _ (by rw [putH_len]; omega), lookH_put_same _ (by omega), l2]
        have f4 : lookH h3 (h.length + 1) = .map 1 (fun _ => .int .i64 a) (fun _ => .int .i64 1) (fun _ => 0) 1 := by
          rw [hh3]
          have q := lookH_app0 [Chunk.map 1 (fun _ => .int .i64 a) (fun _ => .int .i64 1) (fun _ => 0) 1] (putH h2 h.length (.cells true [.mp h2.length]))
          rw [putH_len, show h2.length = h.length + 1 from l2] at q
          rw [show Chunk.cells true [SV.mp h2.length] = .cells true [.mp (h.length + 1)] by rw [l2]]
          exact q
        have f5 : ∀ {k}, k < h.length → k ≠ W.m → lookH h3 k = lookH h k := fun hk hn => by rw [hh3, lookH_at _ (by rw [putH_len]; omega), lookH_put_ne _ (by omega), o2 hn, o1 hk]
        refine ⟨putH (putH h3 W.m (.map (ks T ++ [x]).length (fun j => sS ((ks T ++ [x]).getD j default)) (fun j => .ptr (if j < T.length then W.s j else h.length) 0) (fun j => if j < T.length then W.born j else W.clock) (W.clock + 1))) (h.length + 1) (.map 1 (fun j => .int .i64 ([a].getD j default)) (fun _ => .int .i64 1) (fun _ => 0) 1), ?_, ?_⟩
        · have hst := hv.more hT hx a (h' := putH (putH h3 W.m (.map (ks T ++ [x]).length (fun j => sS ((ks T ++ [x]).getD j default)) (fun j => .ptr (if j < T.length then W.s j else h.length) 0) (fun j => if j < T.length then W.born j else W.clock) (W.clock + 1))) (h.length + 1) (.map 1 (fun j => .int .i64 ([a].getD j default)) (fun _ => .int .i64 1) (fun _ => 0) 1)) (by rw [putH_len, putH_len, l3])
            (by rw [lookH_put_ne _ (by omega), lookH_put_same _ (by omega)]) (by rw [lookH_put_ne _ (by omega), lookH_put_ne _ (by omega)]; exact f3) (by rw [lookH_put_same _ (by rw [putH_len]; omega)]) (fun k hk hn => by rw [lookH_put_ne _ (by omega), lookH_put_ne _ hn]; exact f5 hk hn)
          rw [List.length_append, List.length_singleton] at hst
          simp -implicitDefEqProofs (maxSteps := 1000000) (disch := omega) only [↓vcB, ↓gd, ↓opP, ↓qv, ↓ef, ↓bslS, ↓stS, ↓mkS, ↓rangeS, ↓nextS, ↓entryS, ↓delS, ↓mupS, ↓appS, ↓s2bS, ↓resS, evB, Sx.look, slot, ↓lkL, putS, putO, argsL, ↓reduceIte, ofV, of1, lookH, putH, List.length_cons, List.length_nil, List.length_append, List.replicate, List.append, List.cons_append, List.nil_append, List.append_assoc, List.map_cons, List.map_nil, convS, fldA, nthT, idxA, idxS, fldS, oslN, bnd, slS, unS, valI, lenS, lookS, takeC, psB, asRow, csB, Int.toNat_natCast, Int.le_refl, and_self, rdF, Ent.row, ldS, sz, szL, wrF, bldF, plT, bldS, srcS, nilS, nilEq, mapC, binH, binS2, structS, eqL, eqF, binS, arrS, isI, tupS, stor, storL, Value.oneCell', minS, maxS, capS, true_and, and_true, Nat.reduceAdd, Nat.reduceSub, Nat.reduceMul, Nat.reduceLT, Nat.reduceLeDiff, Nat.reduceEqDiff, Nat.reduceBEq, Int.reduceToNat, Int.reduceNeg, Nat.zero_add, Nat.add_zero, Nat.sub_self, Nat.sub_zero, Nat.zero_mul, Nat.mul_one, Nat.zero_le, if_true, if_false, reduceIte, stays, inL, same1, qn, ldN, convN, lenN, List.mem_cons, List.not_mem_nil, Option.map_some, Option.map_none, cond_true, cond_false, Sx.imp_true, Sx.imp_false, implies_true, Int.reduceEq, Int.reduceNe, Int.reduceLE, Int.reduceLT, decide_true, decide_false, List.zipIdx_cons, List.zipIdx_nil, or_false, false_or, forall_eq_or_imp, forall_eq, ne_eq, reduceCtorEq, not_false_eq_true, Bool.false_eq_true, Bool.true_eq_false, Bool.not_true, Bool.not_false, notInt, numB, tabB, Array.reduceGetElem?, upG, up, nth, lay, rcB, rnm, rnmL, wrB, pcB, res70, pl70, g1, g2, hp, csz_nilFunc, Value.oneCell', Option.isNone]
          simp only at hok
          refine intoR_refl (by rw [putH_len, putH_len]; omega) (hok _ _ hst ?_ ?_)
          · refine Ext.put (Ext.put ?_ _ (.inl (.inr (.inl ⟨hT, rfl⟩)))) _ (.inr (by omega))
            rw [hh3]
            refine Ext.app (Ext.put ?_ _ (.inr (by omega))) _
            rw [hh2]
            refine Ext.put ?_ _ (.inl (.inr (.inl ⟨hT, rfl⟩)))
            rw [hh1]
            exact (Ext.refl _ _).app _
          · rintro k (h1 | ⟨_, h1⟩ | ⟨j, hj, h1 | h1⟩)
            · exact .inl (.inl h1)
            · exact .inl (.inr (.inl ⟨hT, h1⟩))
            · simp only at h1
              split at h1
              · rename_i e; exact .inl (.inr (.inr ⟨j, e, .inl h1⟩))
              · exact .inr (by omega)
            · simp only at h1
              split at h1
              · rename_i e; exact .inl (.inr (.inr ⟨j, e, .inr h1⟩))
              · exact .inr (by omega)
        · refine sim_trans (Sim.put1 f2 ?_ (by omega)) (Sim.put1 (p := h.length + 1) (c := .map 1 (fun _ => .int .i64 a) (fun _ => .int .i64 1) (fun _ => 0) 1) (by rw [lookH_put_ne _ (by omega)]; exact f4) ?_ (by rw [putH_len]; omega))
          · rw [List.length_append, List.length_singleton]
            refine ⟨_, _, _, rfl, fun j hj => ?_⟩
            rw [ks_len] at hj ⊢
            by_cases e : j < T.length
            · have e2 : j < (ks T).length := by rw [ks_len]; exact e
              simp only [if_pos e, List.getD_eq_getElem?_getD, List.getElem?_append_left e2, and_self]
            · obtain rfl : j = T.length := by omega
              simp only [if_neg e, and_self, and_true]
              rw [List.getD_eq_getElem?_getD, List.getElem?_append_right (by rw [ks_len]; omega), ks_len]
              simp
          · refine ⟨_, _, _, rfl, fun j hj => ⟨?_, rfl, rfl⟩⟩
            obtain rfl : j = 0 := by omega
            rfl
end Go.Proofs.Ytloinbebkhcndaa

set_option linter.all false
set_option maxRecDepth 40000
namespace Go.Proofs.Ytloinbebkhcndaa
open Go Go.Sx

theorem callP_good {P : Pr} {f : FuncId} {args : List SV} {h : List Chunk} {K : Tok → SV → List Chunk → Prop} (hc : (∀ k, (lookH h k).good h.length) → callP P f args h K) : callP P f args h K := fun C ρ w hk hM hok => hc (look_good hM) C ρ w hk hM hok
/-- Who voted for a key. -/
def vof (T : VT) (x : Str) : List Int := match (ks T).findIdx? (x == ·) with | some i => vs T i | none => []
theorem cnt_vof (T : VT) (x : Str) : cnt T x = (vof T x).length := by
  unfold cnt vof
  cases (ks T).findIdx? (x == ·) <;> rfl
theorem Ext.nil {h : List Chunk} (l : List Chunk) : Ext (fun _ => False) h (h ++ l) := (Ext.refl _ _).app l
theorem VotesW.app {ro : Bool} {h : List Chunk} {p : Nat} {nv : Int} {T : VT} {W : VW} (hv : VotesW ro h p nv T W) (l : List Chunk) : VotesW ro (h ++ l) p nv T W := hv.ext (Ext.nil l) fun _ _ h => h
/-- Voters. -/
theorem c71W (x : Str) {h : List Chunk} {p : Nat} {nv : Int} {T : VT} {W : VW} (hv : VotesW false h p nv T W) (hn : (vof T x).length ≤ 1000) (K : Tok → SV → List Chunk → Prop) (hK : ∀ (S : List Int) (l : List Chunk) (r : Nat), S = (vof T x).mergeSort (fun a b => decide (a ≤ b)) → h.length ≤ r → lookH (h ++ l) r = .row true S.length 1 (fun i => .int .i64 (S.getD i 0)) → K .mk (.osl r 0 0 1 S.length) (h ++ l)) :
    callP Try.prog 71 [.ptr p 0, .str ⟨⟨x⟩⟩] h K := by
  refine callP_of_code tabOk Try.func71 (by kernel_rfl) rfl (Nat.le_of_ble_eq_true rfl) (codeP_of_vc (pl := pl71) tabOk follows_mixed (by kernel_rfl) ?_)
  rw [Try.ntmps71]
  simp -implicitDefEqProofs (maxSteps := 1000000) (disch := omega) only [↓vcB, ↓gd, ↓opP, ↓qv, ↓ef, ↓bslS, ↓stS, ↓mkS, ↓rangeS, ↓nextS, ↓entryS, ↓delS, ↓mupS, ↓appS, ↓s2bS, ↓resS, evB, Sx.look, slot, ↓lkL, putS, putO, argsL, ↓reduceIte, ofV, of1, lookH, putH, List.length_cons, List.length_nil, List.length_append, List.replicate, List.append, List.cons_append, List.nil_append, List.append_assoc, List.map_cons, List.map_nil, convS, fldA, nthT, idxA, idxS, fldS, oslN, bnd, slS, unS, valI, lenS, lookS, takeC, psB, asRow, csB, Int.toNat_natCast, Int.le_refl, and_self, rdF, Ent.row, ldS, sz, szL, wrF, bldF, plT, bldS, srcS, nilS, nilEq, mapC, binH, binS2, structS, eqL, eqF, binS, arrS, isI, tupS, stor, storL, Value.oneCell', minS, maxS, capS, true_and, and_true, Nat.reduceAdd, Nat.reduceSub, Nat.reduceMul, Nat.reduceLT, Nat.reduceLeDiff, Nat.reduceEqDiff, Nat.reduceBEq, Int.reduceToNat, Int.reduceNeg, Nat.zero_add, Nat.add_zero, Nat.sub_self, Nat.sub_zero, Nat.zero_mul, Nat.mul_one, Nat.zero_le, if_true, if_false, reduceIte, stays, inL, same1, qn, ldN, convN, lenN, List.mem_cons, List.not_mem_nil, Option.map_some, Option.map_none, cond_true, cond_false, Sx.imp_true, Sx.imp_false, implies_true, Int.reduceEq, Int.reduceNe, Int.reduceLE, Int.reduceLT, decide_true, decide_false, List.zipIdx_cons, List.zipIdx_nil, or_false, false_or, forall_eq_or_imp, forall_eq, ne_eq, reduceCtorEq, not_false_eq_true, Bool.false_eq_true, Bool.true_eq_false, Bool.not_true, Bool.not_false, notInt, numB, tabB, Array.reduceGetElem?, upG, up, nth, lay, rcB, rnm, rnmL, wrB, pcB, res71, pl71, csz_nilFunc, Value.oneCell', Option.isNone]
  refine c95W x hv _ ?_
  unfold vof at hn hK
  cases hq : (ks T).findIdx? (x == ·) with
  | none =>
    rw [hq] at hn hK
    simp -implicitDefEqProofs (maxSteps := 1000000) (disch := omega) only [↓vcB, ↓gd, ↓opP, ↓qv, ↓ef, ↓bslS, ↓stS, ↓mkS, ↓rangeS, ↓nextS, ↓entryS, ↓delS, ↓mupS, ↓appS, ↓s2bS, ↓resS, evB, Sx.look, slot, ↓lkL, putS, putO, argsL, ↓reduceIte, ofV, of1, lookH, putH, List.length_cons, List.length_nil, List.length_append, List.replicate, List.append, List.cons_append, List.nil_append, List.append_assoc, List.map_cons, List.map_nil, convS, fldA, nthT, idxA, idxS, fldS, oslN, bnd, slS, unS, valI, lenS, lookS, takeC, psB, asRow, csB, Int.toNat_natCast, Int.le_refl, and_self, rdF, Ent.row, ldS, sz, szL, wrF, bldF, plT, bldS, srcS, nilS, nilEq, mapC, binH, binS2, structS, eqL, eqF, binS, arrS, isI, tupS, stor, storL, Value.oneCell', minS, maxS, capS, true_and, and_true, Nat.reduceAdd, Nat.reduceSub, Nat.reduceMul, Nat.reduceLT, Nat.reduceLeDiff, Nat.reduceEqDiff, Nat.reduceBEq, Int.reduceToNat, Int.reduceNeg, Nat.zero_add, Nat.add_zero, Nat.sub_self, Nat.sub_zero, Nat.zero_mul, Nat.mul_one, Nat.zero_le, if_true, if_false, reduceIte, stays, inL, same1, qn, ldN, convN, lenN, List.mem_cons, List.not_mem_nil, Option.map_some, Option.map_none, cond_true, cond_false, Sx.imp_true, Sx.imp_false, implies_true, Int.reduceEq, Int.reduceNe, Int.reduceLE, Int.reduceLT, decide_true, decide_false, List.zipIdx_cons, List.zipIdx_nil, or_false, false_or, forall_eq_or_imp, forall_eq, ne_eq, reduceCtorEq, not_false_eq_true, Bool.false_eq_true, Bool.true_eq_false, Bool.not_true, Bool.not_false, notInt, numB, tabB, Array.reduceGetElem?, upG, up, nth, lay, rcB, rnm, rnmL, wrB, pcB, res71, pl71, csz_nilFunc, Value.oneCell', Option.isNone]
    refine c52z _ _ ?_
    simp -implicitDefEqProofs (maxSteps := 1000000) (disch := omega) only [↓vcB, ↓gd, ↓opP, ↓qv, ↓ef, ↓bslS, ↓stS, ↓mkS, ↓rangeS, ↓nextS, ↓entryS, ↓delS, ↓mupS, ↓appS, ↓s2bS, ↓resS, evB, Sx.look, slot, ↓lkL, putS, putO, argsL, ↓reduceIte, ofV, of1, lookH, putH, List.length_cons, List.length_nil, List.length_append, List.replicate, List.append, List.cons_append, List.nil_append, List.append_assoc, List.map_cons, List.map_nil, convS, fldA, nthT, idxA, idxS, fldS, oslN, bnd, slS, unS, valI, lenS, lookS, takeC, psB, asRow, csB, Int.toNat_natCast, Int.le_refl, and_self, rdF, Ent.row, ldS, sz, szL, wrF, bldF, plT, bldS, srcS, nilS, nilEq, mapC, binH, binS2, structS, eqL, eqF, binS, arrS, isI, tupS, stor, storL, Value.oneCell', minS, maxS, capS, true_and, and_true, Nat.reduceAdd, Nat.reduceSub, Nat.reduceMul, Nat.reduceLT, Nat.reduceLeDiff, Nat.reduceEqDiff, Nat.reduceBEq, Int.reduceToNat, Int.reduceNeg, Nat.zero_add, Nat.add_zero, Nat.sub_self, Nat.sub_zero, Nat.zero_mul, Nat.mul_one, Nat.zero_le, if_true, if_false, reduceIte, stays, inL, same1, qn, ldN, convN, lenN, List.mem_cons, List.not_mem_nil, Option.map_some, Option.map_none, cond_true, cond_false, Sx.imp_true, Sx.imp_false, implies_true, Int.reduceEq, Int.reduceNe, Int.reduceLE, Int.reduceLT, decide_true, decide_false, List.zipIdx_cons, List.zipIdx_nil, or_false, false_or, forall_eq_or_imp, forall_eq, ne_eq, reduceCtorEq, not_false_eq_true, Bool.false_eq_true, Bool.true_eq_false, Bool.not_true, Bool.not_false, notInt, numB, tabB, Array.reduceGetElem?, upG, up, nth, lay, rcB, rnm, rnmL, wrB, pcB, res71, pl71, csz_nilFunc, Value.oneCell', Option.isNone]
    refine c72W x hv _ ?_
    have hc : cnt T x = 0 := by unfold cnt; rw [hq]
    rw [hc]
    simp -implicitDefEqProofs (maxSteps := 1000000) (disch := omega) only [↓vcB, ↓gd, ↓opP, ↓qv, ↓ef, ↓bslS, ↓stS, ↓mkS, ↓rangeS, ↓nextS, ↓entryS, ↓delS, ↓mupS, ↓appS, ↓s2bS, ↓resS, evB, Sx.look, slot, ↓lkL, putS, putO, argsL, ↓reduceIte, ofV, of1, lookH, putH, List.length_cons, List.length_nil, List.length_append, List.replicate, List.append, List.cons_append, List.nil_append, List.append_assoc, List.map_cons, List.map_nil, convS, fldA, nthT, idxA, idxS, fldS, oslN, bnd, slS, unS, valI, lenS, lookS, takeC, psB, asRow, csB, Int.toNat_natCast, Int.le_refl, and_self, rdF, Ent.row, ldS, sz, szL, wrF, bldF, plT, bldS, srcS, nilS, nilEq, mapC, binH, binS2, structS, eqL, eqF, binS, arrS, isI, tupS, stor, storL, Value.oneCell', minS, maxS, capS, true_and, and_true, Nat.reduceAdd, Nat.reduceSub, Nat.reduceMul, Nat.reduceLT, Nat.reduceLeDiff, Nat.reduceEqDiff, Nat.reduceBEq, Int.reduceToNat, Int.reduceNeg, Nat.zero_add, Nat.add_zero, Nat.sub_self, Nat.sub_zero, Nat.zero_mul, Nat.mul_one, Nat.zero_le, if_true, if_false, reduceIte, stays, inL, same1, qn, ldN, convN, lenN, List.mem_cons, List.not_mem_nil, Option.map_some, Option.map_none, cond_true, cond_false, Sx.imp_true, Sx.imp_false, implies_true, Int.reduceEq, Int.reduceNe, Int.reduceLE, Int.reduceLT, decide_true, decide_false, List.zipIdx_cons, List.zipIdx_nil, or_false, false_or, forall_eq_or_imp, forall_eq, ne_eq, reduceCtorEq, not_false_eq_true, Bool.false_eq_true, Bool.true_eq_false, Bool.not_true, Bool.not_false, notInt, numB, tabB, Array.reduceGetElem?, upG, up, nth, lay, rcB, rnm, rnmL, wrB, pcB, res71, pl71, csz_nilFunc, Value.oneCell', Option.isNone]
    refine c28 (P := Pr.of Try.prog) rfl (SeqL.none (P := Pr.of Try.prog) rfl (qs := []) (h := h)) _ ⟨by omega, by omega⟩ [] (by simp) (by simp) _ ?_
    simp -implicitDefEqProofs (maxSteps := 1000000) (disch := omega) only [↓vcB, ↓gd, ↓opP, ↓qv, ↓ef, ↓bslS, ↓stS, ↓mkS, ↓rangeS, ↓nextS, ↓entryS, ↓delS, ↓mupS, ↓appS, ↓s2bS, ↓resS, evB, Sx.look, slot, ↓lkL, putS, putO, argsL, ↓reduceIte, ofV, of1, lookH, putH, List.length_cons, List.length_nil, List.length_append, List.replicate, List.append, List.cons_append, List.nil_append, List.append_assoc, List.map_cons, List.map_nil, convS, fldA, nthT, idxA, idxS, fldS, oslN, bnd, slS, unS, valI, lenS, lookS, takeC, psB, asRow, csB, Int.toNat_natCast, Int.le_refl, and_self, rdF, Ent.row, ldS, sz, szL, wrF, bldF, plT, bldS, srcS, nilS, nilEq, mapC, binH, binS2, structS, eqL, eqF, binS, arrS, isI, tupS, stor, storL, Value.oneCell', minS, maxS, capS, true_and, and_true, Nat.reduceAdd, Nat.reduceSub, Nat.reduceMul, Nat.reduceLT, Nat.reduceLeDiff, Nat.reduceEqDiff, Nat.reduceBEq, Int.reduceToNat, Int.reduceNeg, Nat.zero_add, Nat.add_zero, Nat.sub_self, Nat.sub_zero, Nat.zero_mul, Nat.mul_one, Nat.zero_le, if_true, if_false, reduceIte, stays, inL, same1, qn, ldN, convN, lenN, List.mem_cons, List.not_mem_nil, Option.map_some, Option.map_none, cond_true, cond_false, Sx.imp_true, Sx.imp_false, implies_true, Int.reduceEq, Int.reduceNe, Int.reduceLE, Int.reduceLT, decide_true, decide_false, List.zipIdx_cons, List.zipIdx_nil, or_false, false_or, forall_eq_or_imp, forall_eq, ne_eq, reduceCtorEq, not_false_eq_true, Bool.false_eq_true, Bool.true_eq_false, Bool.not_true, Bool.not_false, notInt, numB, tabB, Array.reduceGetElem?, upG, up, nth, lay, rcB, rnm, rnmL, wrB, pcB, res71, pl71, csz_nilFunc, Value.oneCell', Option.isNone]
    exact intoR_refl (by simp) (hK [] _ _ (by simp) (Nat.le_refl _) (lookH_app0 _ _))
  | some i =>
    rw [hq] at hn hK
    obtain ⟨hi0, hx⟩ := find_some hq
    have hi : i < T.length := by rwa [ks_len] at hi0
    obtain ⟨S, hS⟩ : ∃ S, S = (vs T i).mergeSort fun a b => decide (a ≤ b) := ⟨_, rfl⟩
    have lS : S.length = (vs T i).length := by rw [hS, List.length_mergeSort]
    have hc : cnt T x = S.length := by unfold cnt; rw [hq, lS]
    simp only at hn
    simp -implicitDefEqProofs (maxSteps := 1000000) (disch := omega) only [↓vcB, ↓gd, ↓opP, ↓qv, ↓ef, ↓bslS, ↓stS, ↓mkS, ↓rangeS, ↓nextS, ↓entryS, ↓delS, ↓mupS, ↓appS, ↓s2bS, ↓resS, evB, Sx.look, slot, ↓lkL, putS, putO, argsL, ↓reduceIte, ofV, of1, lookH, putH, List.length_cons, List.length_nil, List.length_append, List.replicate, List.append, List.cons_append, List.nil_append, List.append_assoc, List.map_cons, List.map_nil, convS, fldA, nthT, idxA, idxS, fldS, oslN, bnd, slS, unS, valI, lenS, lookS, takeC, psB, asRow, csB, Int.toNat_natCast, Int.le_refl, and_self, rdF, Ent.row, ldS, sz, szL, wrF, bldF, plT, bldS, srcS, nilS, nilEq, mapC, binH, binS2, structS, eqL, eqF, binS, arrS, isI, tupS, stor, storL, Value.oneCell', minS, maxS, capS, true_and, and_true, Nat.reduceAdd, Nat.reduceSub, Nat.reduceMul, Nat.reduceLT, Nat.reduceLeDiff, Nat.reduceEqDiff, Nat.reduceBEq, Int.reduceToNat, Int.reduceNeg, Nat.zero_add, Nat.add_zero, Nat.sub_self, Nat.sub_zero, Nat.zero_mul, Nat.mul_one, Nat.zero_le, if_true, if_false, reduceIte, stays, inL, same1, qn, ldN, convN, lenN, List.mem_cons, List.not_mem_nil, Option.map_some, Option.map_none, cond_true, cond_false, Sx.imp_true, Sx.imp_false, implies_true, Int.reduceEq, Int.reduceNe, Int.reduceLE, Int.reduceLT, decide_true, decide_false, List.zipIdx_cons, List.zipIdx_nil, or_false, false_or, forall_eq_or_imp, forall_eq, ne_eq, reduceCtorEq, not_false_eq_true, Bool.false_eq_true, Bool.true_eq_false, Bool.not_true, Bool.not_false, notInt, numB, tabB, Array.reduceGetElem?, upG, up, nth, lay, rcB, rnm, rnmL, wrB, pcB, res71, pl71, csz_nilFunc, Value.oneCell', Option.isNone]
    refine c52m (vs T i) (by omega) S hS _ (W.s i) (W.t i) true _ (W.bs i) (W.cs i) (hv.bns i hi) (hv.set i hi) (hv.mp i hi) _ ?_
    simp -implicitDefEqProofs (maxSteps := 1000000) (disch := omega) only [↓vcB, ↓gd, ↓opP, ↓qv, ↓ef, ↓bslS, ↓stS, ↓mkS, ↓rangeS, ↓nextS, ↓entryS, ↓delS, ↓mupS, ↓appS, ↓s2bS, ↓resS, evB, Sx.look, slot, ↓lkL, putS, putO, argsL, ↓reduceIte, ofV, of1, lookH, putH, List.length_cons, List.length_nil, List.length_append, List.replicate, List.append, List.cons_append, List.nil_append, List.append_assoc, List.map_cons, List.map_nil, convS, fldA, nthT, idxA, idxS, fldS, oslN, bnd, slS, unS, valI, lenS, lookS, takeC, psB, asRow, csB, Int.toNat_natCast, Int.le_refl, and_self, rdF, Ent.row, ldS, sz, szL, wrF, bldF, plT, bldS, srcS, nilS, nilEq, mapC, binH, binS2, structS, eqL, eqF, binS, arrS, isI, tupS, stor, storL, Value.oneCell', minS, maxS, capS, true_and, and_true, Nat.reduceAdd, Nat.reduceSub, Nat.reduceMul, Nat.reduceLT, Nat.reduceLeDiff, Nat.reduceEqDiff, Nat.reduceBEq, Int.reduceToNat, Int.reduceNeg, Nat.zero_add, Nat.add_zero, Nat.sub_self, Nat.sub_zero, Nat.zero_mul, Nat.mul_one, Nat.zero_le, if_true, if_false, reduceIte, stays, inL, same1, qn, ldN, convN, lenN, List.mem_cons, List.not_mem_nil, Option.map_some, Option.map_none, cond_true, cond_false, Sx.imp_true, Sx.imp_false, implies_true, Int.reduceEq, Int.reduceNe, Int.reduceLE, Int.reduceLT, decide_true, decide_false, List.zipIdx_cons, List.zipIdx_nil, or_false, false_or, forall_eq_or_imp, forall_eq, ne_eq, reduceCtorEq, not_false_eq_true, Bool.false_eq_true, Bool.true_eq_false, Bool.not_true, Bool.not_false, notInt, numB, tabB, Array.reduceGetElem?, upG, up, nth, lay, rcB, rnm, rnmL, wrB, pcB, res71, pl71, csz_nilFunc, Value.oneCell', Option.isNone]
    refine c72W x (hv.app _) _ ?_
    rw [hc]
    simp -implicitDefEqProofs (maxSteps := 1000000) (disch := omega) only [↓vcB, ↓gd, ↓opP, ↓qv, ↓ef, ↓bslS, ↓stS, ↓mkS, ↓rangeS, ↓nextS, ↓entryS, ↓delS, ↓mupS, ↓appS, ↓s2bS, ↓resS, evB, Sx.look, slot, ↓lkL, putS, putO, argsL, ↓reduceIte, ofV, of1, lookH, putH, List.length_cons, List.length_nil, List.length_append, List.replicate, List.append, List.cons_append, List.nil_append, List.append_assoc, List.map_cons, List.map_nil, convS, fldA, nthT, idxA, idxS, fldS, oslN, bnd, slS, unS, valI, lenS, lookS, takeC, psB, asRow, csB, Int.toNat_natCast, Int.le_refl, and_self, rdF, Ent.row, ldS, sz, szL, wrF, bldF, plT, bldS, srcS, nilS, nilEq, mapC, binH, binS2, structS, eqL, eqF, binS, arrS, isI, tupS, stor, storL, Value.oneCell', minS, maxS, capS, true_and, and_true, Nat.reduceAdd, Nat.reduceSub, Nat.reduceMul, Nat.reduceLT, Nat.reduceLeDiff, Nat.reduceEqDiff, Nat.reduceBEq, Int.reduceToNat, Int.reduceNeg, Nat.zero_add, Nat.add_zero, Nat.sub_self, Nat.sub_zero, Nat.zero_mul, Nat.mul_one, Nat.zero_le, if_true, if_false, reduceIte, stays, inL, same1, qn, ldN, convN, lenN, List.mem_cons, List.not_mem_nil, Option.map_some, Option.map_none, cond_true, cond_false, Sx.imp_true, Sx.imp_false, implies_true, Int.reduceEq, Int.reduceNe, Int.reduceLE, Int.reduceLT, decide_true, decide_false, List.zipIdx_cons, List.zipIdx_nil, or_false, false_or, forall_eq_or_imp, forall_eq, ne_eq, reduceCtorEq, not_false_eq_true, Bool.false_eq_true, Bool.true_eq_false, Bool.not_true, Bool.not_false, notInt, numB, tabB, Array.reduceGetElem?, upG, up, nth, lay, rcB, rnm, rnmL, wrB, pcB, res71, pl71, csz_nilFunc, Value.oneCell', Option.isNone]
    have r1 : lookH (h ++ [.cells true [.mp (W.t i)], .row true S.length 1 fun i => .int .i64 (S.getD i default), .cells true [.osl (h.length + 1) 0 0 1 S.length]]) (h.length + 2) = .cells true [.osl (h.length + 1) 0 0 1 S.length] := lookH_app _ 2 _
    have r2 : lookH (h ++ [.cells true [.mp (W.t i)], .row true S.length 1 fun i => .int .i64 (S.getD i default), .cells true [.osl (h.length + 1) 0 0 1 S.length]]) (h.length + 1) = .row true S.length 1 fun i => .int .i64 (S.getD i default) := lookH_app _ 1 _
    have q1 := SeqL.valsL (P := Pr.of Try.prog) rfl (qs := [h.length + 1, h.length + 2]) S.length (by omega) (fun i => S.getD i default) (map_getD S).symm r1 r2 (by simp) (by simp)
    refine c28 (P := Pr.of Try.prog) rfl q1 _ ⟨by omega, by omega⟩ S (by rw [Int.toNat_natCast, List.take_length]) (by omega) _ ?_
    simp -implicitDefEqProofs (maxSteps := 1000000) (disch := omega) only [↓vcB, ↓gd, ↓opP, ↓qv, ↓ef, ↓bslS, ↓stS, ↓mkS, ↓rangeS, ↓nextS, ↓entryS, ↓delS, ↓mupS, ↓appS, ↓s2bS, ↓resS, evB, Sx.look, slot, ↓lkL, putS, putO, argsL, ↓reduceIte, ofV, of1, lookH, putH, List.length_cons, List.length_nil, List.length_append, List.replicate, List.append, List.cons_append, List.nil_append, List.append_assoc, List.map_cons, List.map_nil, convS, fldA, nthT, idxA, idxS, fldS, oslN, bnd, slS, unS, valI, lenS, lookS, takeC, psB, asRow, csB, Int.toNat_natCast, Int.le_refl, and_self, rdF, Ent.row, ldS, sz, szL, wrF, bldF, plT, bldS, srcS, nilS, nilEq, mapC, binH, binS2, structS, eqL, eqF, binS, arrS, isI, tupS, stor, storL, Value.oneCell', minS, maxS, capS, true_and, and_true, Nat.reduceAdd, Nat.reduceSub, Nat.reduceMul, Nat.reduceLT, Nat.reduceLeDiff, Nat.reduceEqDiff, Nat.reduceBEq, Int.reduceToNat, Int.reduceNeg, Nat.zero_add, Nat.add_zero, Nat.sub_self, Nat.sub_zero, Nat.zero_mul, Nat.mul_one, Nat.zero_le, if_true, if_false, reduceIte, stays, inL, same1, qn, ldN, convN, lenN, List.mem_cons, List.not_mem_nil, Option.map_some, Option.map_none, cond_true, cond_false, Sx.imp_true, Sx.imp_false, implies_true, Int.reduceEq, Int.reduceNe, Int.reduceLE, Int.reduceLT, decide_true, decide_false, List.zipIdx_cons, List.zipIdx_nil, or_false, false_or, forall_eq_or_imp, forall_eq, ne_eq, reduceCtorEq, not_false_eq_true, Bool.false_eq_true, Bool.true_eq_false, Bool.not_true, Bool.not_false, notInt, numB, tabB, Array.reduceGetElem?, upG, up, nth, lay, rcB, rnm, rnmL, wrB, pcB, res71, pl71, csz_nilFunc, Value.oneCell', Option.isNone]
    refine intoR_refl (by simp) (hK S _ _ hS (by simp) ?_)
    have q := lookH_app [.cells true [.mp (W.t i)], .row true S.length 1 fun i => .int .i64 (S.getD i default), .cells true [.osl (h.length + 1) 0 0 1 S.length], .row true S.length 1 fun i => .int .i64 (S.getD i 0)] 3 h
    simpa [lookH] using q
/-- Keys. -/
theorem c73W {h : List Chunk} {p : Nat} {nv : Int} {T : VT} {W : VW} (hv : VotesW false h p nv T W) (hn : T.length ≤ 1000) (S : List Str) (hS : S = (ks T).mergeSort fun a b => decide (a ≤ b)) (K : Tok → SV → List Chunk → Prop)
    (hK : ∀ c, K .mk (.fn (.func 107) [] [.ptr (h.length + 2) 0]) (h ++ [c, .row true S.length 1 fun i => .str ⟨⟨S.getD i default⟩⟩, .cells true [.osl (h.length + 1) 0 0 1 S.length]])) : callP Try.prog 73 [.ptr p 0] h K := by
  obtain ⟨f1, hp⟩ : ∃ f1, lookH h p = .cells true [.int .i64 nv, f1] := by
    by_cases e : T = []
    · exact ⟨_, hv.nil e⟩
    · exact ⟨_, hv.top e⟩
  refine callP_of_code tabOk Try.func73 (by kernel_rfl) rfl (Nat.le_of_ble_eq_true rfl) (codeP_of_vc (pl := pl73) tabOk follows_mixed (by kernel_rfl) ?_)
  rw [Try.ntmps73]
  simp -implicitDefEqProofs (maxSteps := 1000000) (disch := omega) only [↓vcB, ↓gd, ↓opP, ↓qv, ↓ef, ↓bslS, ↓stS, ↓mkS, ↓rangeS, ↓nextS, ↓entryS, ↓delS, ↓mupS, ↓appS, ↓s2bS, ↓resS, evB, Sx.look, slot, ↓lkL, putS, putO, argsL, ↓reduceIte, ofV, of1, lookH, putH, List.length_cons, List.length_nil, List.length_append, List.replicate, List.append, List.cons_append, List.nil_append, List.append_assoc, List.map_cons, List.map_nil, convS, fldA, nthT, idxA, idxS, fldS, oslN, bnd, slS, unS, valI, lenS, lookS, takeC, psB, asRow, csB, Int.toNat_natCast, Int.le_refl, and_self, rdF, Ent.row, ldS, sz, szL, wrF, bldF, plT, bldS, srcS, nilS, nilEq, mapC, binH, binS2, structS, eqL, eqF, binS, arrS, isI, tupS, stor, storL, Value.oneCell', minS, maxS, capS, true_and, and_true, Nat.reduceAdd, Nat.reduceSub, Nat.reduceMul, Nat.reduceLT, Nat.reduceLeDiff, Nat.reduceEqDiff, Nat.reduceBEq, Int.reduceToNat, Int.reduceNeg, Nat.zero_add, Nat.add_zero, Nat.sub_self, Nat.sub_zero, Nat.zero_mul, Nat.mul_one, Nat.zero_le, if_true, if_false, reduceIte, stays, inL, same1, qn, ldN, convN, lenN, List.mem_cons, List.not_mem_nil, Option.map_some, Option.map_none, cond_true, cond_false, Sx.imp_true, Sx.imp_false, implies_true, Int.reduceEq, Int.reduceNe, Int.reduceLE, Int.reduceLT, decide_true, decide_false, List.zipIdx_cons, List.zipIdx_nil, or_false, false_or, forall_eq_or_imp, forall_eq, ne_eq, reduceCtorEq, not_false_eq_true, Bool.false_eq_true, Bool.true_eq_false, Bool.not_true, Bool.not_false, notInt, numB, tabB, Array.reduceGetElem?, upG, up, nth, lay, rcB, rnm, rnmL, wrB, pcB, res73, pl73, hp, csz_nilFunc, Value.oneCell', Option.isNone]
  by_cases hT : T = []
  · have hS0 : S = [] := by rw [hS, hT]; simp [ks]
    subst hS0
    refine c97n nv h p true (hv.nil hT) _ ?_
    simp -implicitDefEqProofs (maxSteps := 1000000) (disch := omega) only [↓vcB, ↓gd, ↓opP, ↓qv, ↓ef, ↓bslS, ↓stS, ↓mkS, ↓rangeS, ↓nextS, ↓entryS, ↓delS, ↓mupS, ↓appS, ↓s2bS, ↓resS, evB, Sx.look, slot, ↓lkL, putS, putO, argsL, ↓reduceIte, ofV, of1, lookH, putH, List.length_cons, List.length_nil, List.length_append, List.replicate, List.append, List.cons_append, List.nil_append, List.append_assoc, List.map_cons, List.map_nil, convS, fldA, nthT, idxA, idxS, fldS, oslN, bnd, slS, unS, valI, lenS, lookS, takeC, psB, asRow, csB, Int.toNat_natCast, Int.le_refl, and_self, rdF, Ent.row, ldS, sz, szL, wrF, bldF, plT, bldS, srcS, nilS, nilEq, mapC, binH, binS2, structS, eqL, eqF, binS, arrS, isI, tupS, stor, storL, Value.oneCell', minS, maxS, capS, true_and, and_true, Nat.reduceAdd, Nat.reduceSub, Nat.reduceMul, Nat.reduceLT, Nat.reduceLeDiff, Nat.reduceEqDiff, Nat.reduceBEq, Int.reduceToNat, Int.reduceNeg, Nat.zero_add, Nat.add_zero, Nat.sub_self, Nat.sub_zero, Nat.zero_mul, Nat.mul_one, Nat.zero_le, if_true, if_false, reduceIte, stays, inL, same1, qn, ldN, convN, lenN, List.mem_cons, List.not_mem_nil, Option.map_some, Option.map_none, cond_true, cond_false, Sx.imp_true, Sx.imp_false, implies_true, Int.reduceEq, Int.reduceNe, Int.reduceLE, Int.reduceLT, decide_true, decide_false, List.zipIdx_cons, List.zipIdx_nil, or_false, false_or, forall_eq_or_imp, forall_eq, ne_eq, reduceCtorEq, not_false_eq_true, Bool.false_eq_true, Bool.true_eq_false, Bool.not_true, Bool.not_false, notInt, numB, tabB, Array.reduceGetElem?, upG, up, nth, lay, rcB, rnm, rnmL, wrB, pcB, res73, pl73, hp, csz_nilFunc, Value.oneCell', Option.isNone]
    exact intoR_refl (by simp) (hK _)
  · refine c97m nv (ks T) (by rw [ks_len]; exact hn) S hS h p W.m true _ W.born W.clock (by rw [ks_len]; exact hv.bn) (hv.top hT) (hv.tab hT) _ ?_
    simp -implicitDefEqProofs (maxSteps := 1000000) (disch := omega) only [↓vcB, ↓gd, ↓opP, ↓qv, ↓ef, ↓bslS, ↓stS, ↓mkS, ↓rangeS, ↓nextS, ↓entryS, ↓delS, ↓mupS, ↓appS, ↓s2bS, ↓resS, evB, Sx.look, slot, ↓lkL, putS, putO, argsL, ↓reduceIte, ofV, of1, lookH, putH, List.length_cons, List.length_nil, List.length_append, List.replicate, List.append, List.cons_append, List.nil_append, List.append_assoc, List.map_cons, List.map_nil, convS, fldA, nthT, idxA, idxS, fldS, oslN, bnd, slS, unS, valI, lenS, lookS, takeC, psB, asRow, csB, Int.toNat_natCast, Int.le_refl, and_self, rdF, Ent.row, ldS, sz, szL, wrF, bldF, plT, bldS, srcS, nilS, nilEq, mapC, binH, binS2, structS, eqL, eqF, binS, arrS, isI, tupS, stor, storL, Value.oneCell', minS, maxS, capS, true_and, and_true, Nat.reduceAdd, Nat.reduceSub, Nat.reduceMul, Nat.reduceLT, Nat.reduceLeDiff, Nat.reduceEqDiff, Nat.reduceBEq, Int.reduceToNat, Int.reduceNeg, Nat.zero_add, Nat.add_zero, Nat.sub_self, Nat.sub_zero, Nat.zero_mul, Nat.mul_one, Nat.zero_le, if_true, if_false, reduceIte, stays, inL, same1, qn, ldN, convN, lenN, List.mem_cons, List.not_mem_nil, Option.map_some, Option.map_none, cond_true, cond_false, Sx.imp_true, Sx.imp_false, implies_true, Int.reduceEq, Int.reduceNe, Int.reduceLE, Int.reduceLT, decide_true, decide_false, List.zipIdx_cons, List.zipIdx_nil, or_false, false_or, forall_eq_or_imp, forall_eq, ne_eq, reduceCtorEq, not_false_eq_true, Bool.false_eq_true, Bool.true_eq_false, Bool.not_true, Bool.not_false, notInt, numB, tabB, Array.reduceGetElem?, upG, up, nth, lay, rcB, rnm, rnmL, wrB, pcB, res73, pl73, hp, csz_nilFunc, Value.oneCell', Option.isNone]
    exact intoR_refl (by simp) (hK _)
theorem c99W (x : Str) (need : Int) {hf : List Chunk} {kb kn p : Nat} {nv : Int} {T : VT} {W : VW} (hv : VotesW true hf p nv T W) (h1 : lookH hf kb = .cells false [.ptr p 0]) (h2 : lookH hf kn = .cells false [.int .i64 need]) :
    callP (Pr.of Try.prog) 99 [.str ⟨⟨x⟩⟩, .ptr kb 0, .ptr kn 0] hf fun _ v _ => v = .bool (decide ((if need > 1 then need else 1) ≤ (cnt T x : Int))) := by
  refine callP_of_code tabOk Try.func99 (by kernel_rfl) rfl (Nat.le_of_ble_eq_true rfl) (codeP_of_vc (pl := pl99) tabOk follows_mixed (by kernel_rfl) ?_)
  rw [Try.ntmps99]
  have g1 : decide ((cnt T x : Int) ≥ if need > 1 then need else 1) = decide ((if need > 1 then need else 1) ≤ (cnt T x : Int)) := rfl
  simp -implicitDefEqProofs (maxSteps := 1000000) (disch := omega) only [↓vcB, ↓gd, ↓opP, ↓qv, ↓ef, ↓bslS, ↓stS, ↓mkS, ↓rangeS, ↓nextS, ↓entryS, ↓delS, ↓mupS, ↓appS, ↓s2bS, ↓resS, evB, Sx.look, slot, ↓lkL, putS, putO, argsL, ↓reduceIte, ofV, of1, lookH, putH, List.length_cons, List.length_nil, List.length_append, List.replicate, List.append, List.cons_append, List.nil_append, List.append_assoc, List.map_cons, List.map_nil, convS, fldA, nthT, idxA, idxS, fldS, oslN, bnd, slS, unS, valI, lenS, lookS, takeC, psB, asRow, csB, Int.toNat_natCast, Int.le_refl, and_self, rdF, Ent.row, ldS, sz, szL, wrF, bldF, plT, bldS, srcS, nilS, nilEq, mapC, binH, binS2, structS, eqL, eqF, binS, arrS, isI, tupS, stor, storL, Value.oneCell', minS, maxS, capS, true_and, and_true, Nat.reduceAdd, Nat.reduceSub, Nat.reduceMul, Nat.reduceLT, Nat.reduceLeDiff, Nat.reduceEqDiff, Nat.reduceBEq, Int.reduceToNat, Int.reduceNeg, Nat.zero_add, Nat.add_zero, Nat.sub_self, Nat.sub_zero, Nat.zero_mul, Nat.mul_one, Nat.zero_le, if_true, if_false, reduceIte, stays, inL, same1, qn, ldN, convN, lenN, List.mem_cons, List.not_mem_nil, Option.map_some, Option.map_none, cond_true, cond_false, Sx.imp_true, Sx.imp_false, implies_true, Int.reduceEq, Int.reduceNe, Int.reduceLE, Int.reduceLT, decide_true, decide_false, List.zipIdx_cons, List.zipIdx_nil, or_false, false_or, forall_eq_or_imp, forall_eq, ne_eq, reduceCtorEq, not_false_eq_true, Bool.false_eq_true, Bool.true_eq_false, Bool.not_true, Bool.not_false, notInt, numB, tabB, Array.reduceGetElem?, upG, up, nth, lay, rcB, rnm, rnmL, wrB, pcB, res99, pl99, h1, h2, csz_nilFunc, Value.oneCell', Option.isNone]
  refine c72W x hv _ ?_
  simp -implicitDefEqProofs (maxSteps := 1000000) (disch := omega) only [↓vcB, ↓gd, ↓opP, ↓qv, ↓ef, ↓bslS, ↓stS, ↓mkS, ↓rangeS, ↓nextS, ↓entryS, ↓delS, ↓mupS, ↓appS, ↓s2bS, ↓resS, evB, Sx.look, slot, ↓lkL, putS, putO, argsL, ↓reduceIte, ofV, of1, lookH, putH, List.length_cons, List.length_nil, List.length_append, List.replicate, List.append, List.cons_append, List.nil_append, List.append_assoc, List.map_cons, List.map_nil, convS, fldA, nthT, idxA, idxS, fldS, oslN, bnd, slS, unS, valI, lenS, lookS, takeC, psB, asRow, csB, Int.toNat_natCast, Int.le_refl, and_self, rdF, Ent.row, ldS, sz, szL, wrF, bldF, plT, bldS, srcS, nilS, nilEq, mapC, binH, binS2, structS, eqL, eqF, binS, arrS, isI, tupS, stor, storL, Value.oneCell', minS, maxS, capS, true_and, and_true, Nat.reduceAdd, Nat.reduceSub, Nat.reduceMul, Nat.reduceLT, Nat.reduceLeDiff, Nat.reduceEqDiff, Nat.reduceBEq, Int.reduceToNat, Int.reduceNeg, Nat.zero_add, Nat.add_zero, Nat.sub_self, Nat.sub_zero, Nat.zero_mul, Nat.mul_one, Nat.zero_le, if_true, if_false, reduceIte, stays, inL, same1, qn, ldN, convN, lenN, List.mem_cons, List.not_mem_nil, Option.map_some, Option.map_none, cond_true, cond_false, Sx.imp_true, Sx.imp_false, implies_true, Int.reduceEq, Int.reduceNe, Int.reduceLE, Int.reduceLT, decide_true, decide_false, List.zipIdx_cons, List.zipIdx_nil, or_false, false_or, forall_eq_or_imp, forall_eq, ne_eq, reduceCtorEq, not_false_eq_true, Bool.false_eq_true, Bool.true_eq_false, Bool.not_true, Bool.not_false, notInt, numB, tabB, Array.reduceGetElem?, upG, up, nth, lay, rcB, rnm, rnmL, wrB, pcB, res99, pl99, h1, h2, g1, csz_nilFunc, Value.oneCell', Option.isNone]
  exact intoR_refl (Nat.le_refl _) rfl
/-- Reached. -/
theorem c74W (need : Int) {h : List Chunk} {p : Nat} {nv : Int} {T : VT} {W : VW} (hv : VotesW false h p nv T W) (hn : T.length ≤ 1000) (S : List Str) (hS : S = (ks T).mergeSort fun a b => decide (a ≤ b)) (L : List Str) (hL : L = S.filter fun x => decide ((if need > 1 then need else 1) ≤ (cnt T x : Int))) (K : Tok → SV → List Chunk → Prop)
    (hK : ∀ l, K .mk (.tup [.str ⟨⟨L.getD 0 default⟩⟩, .bool (decide (0 < L.length))]) (h ++ l)) : callP Try.prog 74 [.ptr p 0, .int .i64 need] h K := by
  refine callP_of_code tabOk Try.func74 (by kernel_rfl) rfl (Nat.le_of_ble_eq_true rfl) (codeP_of_vc (pl := pl74) tabOk follows_mixed (by kernel_rfl) ?_)
  rw [Try.ntmps74]
  have lS : S.length = T.length := by rw [hS, List.length_mergeSort, ks_len]
  simp -implicitDefEqProofs (maxSteps := 1000000) (disch := omega) only [↓vcB, ↓gd, ↓opP, ↓qv, ↓ef, ↓bslS, ↓stS, ↓mkS, ↓rangeS, ↓nextS, ↓entryS, ↓delS, ↓mupS, ↓appS, ↓s2bS, ↓resS, evB, Sx.look, slot, ↓lkL, putS, putO, argsL, ↓reduceIte, ofV, of1, lookH, putH, List.length_cons, List.length_nil, List.length_append, List.replicate, List.append, List.cons_append, List.nil_append, List.append_assoc, List.map_cons, List.map_nil, convS, fldA, nthT, idxA, idxS, fldS, oslN, bnd, slS, unS, valI, lenS, lookS, takeC, psB, asRow, csB, Int.toNat_natCast, Int.le_refl, and_self, rdF, Ent.row, ldS, sz, szL, wrF, bldF, plT, bldS, srcS, nilS, nilEq, mapC, binH, binS2, structS, eqL, eqF, binS, arrS, isI, tupS, stor, storL, Value.oneCell', minS, maxS, capS, true_and, and_true, Nat.reduceAdd, Nat.reduceSub, Nat.reduceMul, Nat.reduceLT, Nat.reduceLeDiff, Nat.reduceEqDiff, Nat.reduceBEq, Int.reduceToNat, Int.reduceNeg, Nat.zero_add, Nat.add_zero, Nat.sub_self, Nat.sub_zero, Nat.zero_mul, Nat.mul_one, Nat.zero_le, if_true, if_false, reduceIte, stays, inL, same1, qn, ldN, convN, lenN, List.mem_cons, List.not_mem_nil, Option.map_some, Option.map_none, cond_true, cond_false, Sx.imp_true, Sx.imp_false, implies_true, Int.reduceEq, Int.reduceNe, Int.reduceLE, Int.reduceLT, decide_true, decide_false, List.zipIdx_cons, List.zipIdx_nil, or_false, false_or, forall_eq_or_imp, forall_eq, ne_eq, reduceCtorEq, not_false_eq_true, Bool.false_eq_true, Bool.true_eq_false, Bool.not_true, Bool.not_false, notInt, numB, tabB, Array.reduceGetElem?, upG, up, nth, lay, rcB, rnm, rnmL, wrB, pcB, res74, pl74, lookH_app, lookH_app0, csz_nilFunc, Value.oneCell', Option.isNone]
  refine c73W (hv.app _) hn S hS _ fun c => ?_
  simp -implicitDefEqProofs (maxSteps := 1000000) (disch := omega) only [↓vcB, ↓gd, ↓opP, ↓qv, ↓ef, ↓bslS, ↓stS, ↓mkS, ↓rangeS, ↓nextS, ↓entryS, ↓delS, ↓mupS, ↓appS, ↓s2bS, ↓resS, evB, Sx.look, slot, ↓lkL, putS, putO, argsL, ↓reduceIte, ofV, of1, lookH, putH, List.length_cons, List.length_nil, List.length_append, List.replicate, List.append, List.cons_append, List.nil_append, List.append_assoc, List.map_cons, List.map_nil, convS, fldA, nthT, idxA, idxS, fldS, oslN, bnd, slS, unS, valI, lenS, lookS, takeC, psB, asRow, csB, Int.toNat_natCast, Int.le_refl, and_self, rdF, Ent.row, ldS, sz, szL, wrF, bldF, plT, bldS, srcS, nilS, nilEq, mapC, binH, binS2, structS, eqL, eqF, binS, arrS, isI, tupS, stor, storL, Value.oneCell', minS, maxS, capS, true_and, and_true, Nat.reduceAdd, Nat.reduceSub, Nat.reduceMul, Nat.reduceLT, Nat.reduceLeDiff, Nat.reduceEqDiff, Nat.reduceBEq, Int.reduceToNat, Int.reduceNeg, Nat.zero_add, Nat.add_zero, Nat.sub_self, Nat.sub_zero, Nat.zero_mul, Nat.mul_one, Nat.zero_le, if_true, if_false, reduceIte, stays, inL, same1, qn, ldN, convN, lenN, List.mem_cons, List.not_mem_nil, Option.map_some, Option.map_none, cond_true, cond_false, Sx.imp_true, Sx.imp_false, implies_true, Int.reduceEq, Int.reduceNe, Int.reduceLE, Int.reduceLT, decide_true, decide_false, List.zipIdx_cons, List.zipIdx_nil, or_false, false_or, forall_eq_or_imp, forall_eq, ne_eq, reduceCtorEq, not_false_eq_true, Bool.false_eq_true, Bool.true_eq_false, Bool.not_true, Bool.not_false, notInt, numB, tabB, Array.reduceGetElem?, upG, up, nth, lay, rcB, rnm, rnmL, wrB, pcB, res74, pl74, lookH_app, lookH_app0, csz_nilFunc, Value.oneCell', Option.isNone]
  refine callP_good fun hgood => ?_
  have r0 : lookH (h ++ [.cells true [.ptr p 0], .cells true [.int .i64 need], c, .row true S.length 1 fun i => .str ⟨⟨S.getD i default⟩⟩, .cells true [.osl (h.length + 3) 0 0 1 S.length]]) h.length = .cells true [.ptr p 0] := lookH_app0 _ _
  have r1 : lookH (h ++ [.cells true [.ptr p 0], .cells true [.int .i64 need], c, .row true S.length 1 fun i => .str ⟨⟨S.getD i default⟩⟩, .cells true [.osl (h.length + 3) 0 0 1 S.length]]) (h.length + 1) = .cells true [.int .i64 need] := lookH_app _ 1 _
  have r3 : lookH (h ++ [.cells true [.ptr p 0], .cells true [.int .i64 need], c, .row true S.length 1 fun i => .str ⟨⟨S.getD i default⟩⟩, .cells true [.osl (h.length + 3) 0 0 1 S.length]]) (h.length + 3) = .row true S.length 1 fun i => .str ⟨⟨S.getD i default⟩⟩ := lookH_app _ 3 _
  have r4 : lookH (h ++ [.cells true [.ptr p 0], .cells true [.int .i64 need], c, .row true S.length 1 fun i => .str ⟨⟨S.getD i default⟩⟩, .cells true [.osl (h.length + 3) 0 0 1 S.length]]) (h.length + 4) = .cells true [.osl (h.length + 3) 0 0 1 S.length] := lookH_app _ 4 _
  have hlen : (h ++ [.cells true [.ptr p 0], .cells true [.int .i64 need], c, .row true S.length 1 fun i => .str ⟨⟨S.getD i default⟩⟩, .cells true [.osl (h.length + 3) 0 0 1 S.length]]).length = h.length + 5 := by simp
  have q1 := SeqT.valsL (P := Pr.of Try.prog) rfl (qs := List.range (h.length + 5)) S.length (by omega) (fun i => S.getD i default) (map_getD S).symm r4 r3 (by simp) (by simp)
  have q2 : FunS (Pr.of Try.prog) (List.range (h.length + 5)) (h ++ [.cells true [.ptr p 0], .cells true [.int .i64 need], c, .row true S.length 1 fun i => .str ⟨⟨S.getD i default⟩⟩, .cells true [.osl (h.length + 3) 0 0 1 S.length]]) (.fn (.func 99) [] [.ptr h.length 0, .ptr (h.length + 1) 0]) (fxT fun x => decide ((if need > 1 then need else 1) ≤ (cnt T x : Int))) := by
    refine funS_whole (P := Pr.of Try.prog) (p := Try.prog) rfl Try.func99 (by kernel_rfl) rfl (fun k hk => by rw [hlen] at hk; simpa using hk) hgood (by rw [hlen]; simp [okL, ok]) ?_
    intro args x hx
    unfold fxT at hx
    split at hx
    · cases hx
      exact ⟨⟨trivial, trivial⟩, trivial, c99W _ need (hv.app _).fz (by rw [lookH_fz, r0]; rfl) (by rw [lookH_fz, r1]; rfl)⟩
    · cases hx
  refine c98 (P := Pr.of Try.prog) rfl q1 q2 (L.getD 0 default) (decide (0 < L.length)) (by rw [hL]) (by rw [hL]) _ ?_
  simp -implicitDefEqProofs (maxSteps := 1000000) (disch := omega) only [↓vcB, ↓gd, ↓opP, ↓qv, ↓ef, ↓bslS, ↓stS, ↓mkS, ↓rangeS, ↓nextS, ↓entryS, ↓delS, ↓mupS, ↓appS, ↓s2bS, ↓resS, evB, Sx.look, slot, ↓lkL, putS, putO, argsL, ↓reduceIte, ofV, of1, lookH, putH, List.length_cons, List.length_nil, List.length_append, List.replicate, List.append, List.cons_append, List.nil_append, List.append_assoc, List.map_cons, List.map_nil, convS, fldA, nthT, idxA, idxS, fldS, oslN, bnd, slS, unS, valI, lenS, lookS, takeC, psB, asRow, csB, Int.toNat_natCast, Int.le_refl, and_self, rdF, Ent.row, ldS, sz, szL, wrF, bldF, plT, bldS, srcS, nilS, nilEq, mapC, binH, binS2, structS, eqL, eqF, binS, arrS, isI, tupS, stor, storL, Value.oneCell', minS, maxS, capS, true_and, and_true, Nat.reduceAdd, Nat.reduceSub, Nat.reduceMul, Nat.reduceLT, Nat.reduceLeDiff, Nat.reduceEqDiff, Nat.reduceBEq, Int.reduceToNat, Int.reduceNeg, Nat.zero_add, Nat.add_zero, Nat.sub_self, Nat.sub_zero, Nat.zero_mul, Nat.mul_one, Nat.zero_le, if_true, if_false, reduceIte, stays, inL, same1, qn, ldN, convN, lenN, List.mem_cons, List.not_mem_nil, Option.map_some, Option.map_none, cond_true, cond_false, Sx.imp_true, Sx.imp_false, implies_true, Int.reduceEq, Int.reduceNe, Int.reduceLE, Int.reduceLT, decide_true, decide_false, List.zipIdx_cons, List.zipIdx_nil, or_false, false_or, forall_eq_or_imp, forall_eq, ne_eq, reduceCtorEq, not_false_eq_true, Bool.false_eq_true, Bool.true_eq_false, Bool.not_true, Bool.not_false, notInt, numB, tabB, Array.reduceGetElem?, upG, up, nth, lay, rcB, rnm, rnmL, wrB, pcB, res74, pl74, csz_nilFunc, Value.oneCell', Option.isNone]
  exact intoR_refl (by simp) (hK _)
end Go.Proofs.Ytloinbebkhcndaa

set_option linter.all false
set_option maxRecDepth 40000
namespace Go.Proofs.Ytloinbebkhcndaa
open Go Go.Sx

/-! ### Two quorums meet: the plain law -/
/-- How often a is among the first j of y. -/
def occ (a : Int) (y : List Int) (j : Nat) : Nat := ((y.take j).filter (a == ·)).length
theorem occ_succ (a : Int) (y : List Int) {j : Nat} (hj : j < y.length) : occ a y (j + 1) = occ a y j + (if a == y.getD j 0 then 1 else 0) := by
  unfold occ
  rw [List.take_succ, List.filter_append, List.length_append, List.getElem?_eq_getElem hj, List.getD_eq_getElem?_getD, List.getElem?_eq_getElem hj]
  cases h : a == y[j] <;> simp [h]
/-- Pairs that are alike, of the first i of x. -/
def prs (x y : List Int) : Nat → Nat
  | 0 => 0
  | i + 1 => prs x y i + occ (x.getD i 0) y y.length
theorem occ_full (a : Int) {y : List Int} (hy : y.Nodup) : occ a y y.length = if a ∈ y then 1 else 0 := by
  unfold occ
  rw [List.take_length]
  induction y with
  | nil => rfl
  | cons b y ih =>
    rw [List.nodup_cons] at hy
    have ih := ih hy.2
    by_cases h : a = b
    · subst h
      have : ¬ a ∈ y := hy.1
      rw [if_neg this] at ih
      simp [ih]
    · have h1 : (a == b) = false := beq_eq_false_iff_ne.2 h
      rw [List.filter_cons, h1]
      simp only [Bool.false_eq_true, if_false, ih, List.mem_cons, h, false_or]
theorem prs_eq (x : List Int) {y : List Int} (hy : y.Nodup) : ∀ i, i ≤ x.length → prs x y i = ((x.take i).filter (fun a => decide (a ∈ y))).length
  | 0, _ => by simp [prs]
  | i + 1, hi => by
    have hi' : i < x.length := hi
    rw [prs, prs_eq x hy i (by omega), occ_full _ hy, List.take_succ, List.filter_append, List.length_append, List.getElem?_eq_getElem hi', List.getD_eq_getElem?_getD, List.getElem?_eq_getElem hi']
    by_cases h : x[i] ∈ y <;> simp [h]
theorem nodupI_le {n : Nat} {l : List Int} (hl : l.Nodup) (h : ∀ a ∈ l, 0 ≤ a ∧ a < n) : l.length ≤ n := by
  have h1 := nodup_le n (l.map Int.toNat) ?_ ?_
  · simpa using h1
  · unfold List.Nodup
    rw [List.pairwise_map]
    refine hl.imp_of_mem ?_
    intro a b ha hb hne e
    have := h a ha
    have := h b hb
    exact hne (by omega)
  · intro a ha
    obtain ⟨b, hb, rfl⟩ := List.mem_map.1 ha
    have := h b hb
    omega
theorem split_len (p : Int → Bool) : ∀ x : List Int, x.length = (x.filter p).length + (x.filter fun a => !p a).length
  | [] => rfl
  | a :: x => by
    have := split_len p x
    cases h : p a <;> simp [h] <;> omega
theorem meet_le {n : Nat} {x y : List Int} (hx : x.Nodup) (hy : y.Nodup) (h1 : ∀ a ∈ x, 0 ≤ a ∧ a < n) (h2 : ∀ a ∈ y, 0 ≤ a ∧ a < n) : x.length + y.length ≤ n + prs x y x.length := by
  rw [prs_eq x hy x.length (Nat.le_refl _), List.take_length]
  have h3 : ((x.filter fun a => !decide (a ∈ y)) ++ y).length ≤ n := by
    refine nodupI_le ?_ ?_
    · rw [List.nodup_append]
      refine ⟨hx.filter _, hy, fun a ha b hb e => ?_⟩
      rw [List.mem_filter] at ha
      subst e
      simp [hb] at ha
    · intro a ha
      rw [List.mem_append, List.mem_filter] at ha
      rcases ha with ⟨ha, _⟩ | ha
      · exact h1 a ha
      · exact h2 a ha
  have h4 : x.length = (x.filter fun a => decide (a ∈ y)).length + (x.filter fun a => !decide (a ∈ y)).length := split_len (fun a => decide (a ∈ y)) x
  rw [List.length_append] at h3
  omega
end Go.Proofs.Ytloinbebkhcndaa

set_option linter.all false
set_option maxRecDepth 40000
namespace Go.Proofs.Ytloinbebkhcndaa
open Go Go.Sx
theorem res15 : Try.f15.results.toList = [.tmp 8] := rfl
def pl15 : Nat → Plan
  | 7 => (.q 0 (.q 1 (.q 2 (.q 3 (.q 4 (.q 5 (.q 6 (.q 7 (.q 8 (.q 9 (.q 10 (.q 11 (.q 12 (.q 13 (.q 14 (.q 15 (.e1 16 [10, 15] .nil)))))))))))))))))
  | _ => .nil

def inR (T : VT) (n : Int) : Prop := ∀ i, i < T.length → ∀ b ∈ vs T i, 0 ≤ b ∧ b < n
theorem inR_add {T : VT} {n : Int} (h : inR T n) (x : Str) {a : Int} (ha : 0 ≤ a ∧ a < n) : inR (addT T x a) n := by
  unfold addT
  cases hq : (ks T).findIdx? (x == ·) with
  | some i =>
    have hi : i < T.length := by
      obtain ⟨h1, _⟩ := find_some hq
      rwa [ks_len] at h1
    by_cases hm : a ∈ vs T i
    · simp only [if_pos hm]; exact h
    · simp only [if_neg hm]
      intro j hj b hb
      rw [List.length_set] at hj
      rw [vs_set T i _ hi] at hb
      by_cases e : j = i
      · rw [if_pos e] at hb
        rw [List.mem_append, List.mem_singleton] at hb
        rcases hb with hb | rfl
        · exact h i hi b hb
        · exact ha
      · rw [if_neg e] at hb
        exact h j hj b hb
  | none =>
    intro j hj b hb
    simp only [List.length_append, List.length_singleton] at hj
    rw [vs_snoc T _ j hj] at hb
    by_cases e : j = T.length
    · rw [if_pos e] at hb
      rw [List.mem_singleton] at hb
      subst hb
      exact ha
    · rw [if_neg e] at hb
      exact h j (by omega) b hb
theorem inR_vof {T : VT} {n : Int} (h : inR T n) (x : Str) : ∀ b ∈ vof T x, 0 ≤ b ∧ b < n := by
  unfold vof
  cases hq : (ks T).findIdx? (x == ·) with
  | some i =>
    have hi : i < T.length := by
      obtain ⟨h1, _⟩ := find_some hq
      rwa [ks_len] at h1
    exact h i hi
  | none => intro b hb; cases hb
theorem VotesW.vofn {ro : Bool} {h : List Chunk} {p : Nat} {nv : Int} {T : VT} {W : VW} (hv : VotesW ro h p nv T W) (x : Str) : (vof T x).Nodup := by
  unfold vof
  cases hq : (ks T).findIdx? (x == ·) with
  | some i =>
    have hi : i < T.length := by
      obtain ⟨h1, _⟩ := find_some hq
      rwa [ks_len] at h1
    exact hv.nds i hi
  | none => exact List.nodup_nil
theorem addT_len (T : VT) (x : Str) (a : Int) : (addT T x a).length ≤ T.length + 1 := by
  unfold addT
  cases (ks T).findIdx? (x == ·) with
  | some i => by_cases hm : a ∈ vs T i <;> simp [hm]
  | none => simp
/-- No votes yet. -/
theorem VotesW.new {h : List Chunk} {p : Nat} {nv : Int} (hp : lookH h p = .cells true [.int .i64 nv, .v (.map none)]) : VotesW false h p nv [] ⟨0, fun _ => 0, fun _ => 0, fun _ => 0, 0, fun _ _ => 0, fun _ => 0⟩ :=
  ⟨fun _ => hp, fun e => absurd rfl e, fun e => absurd rfl e, bn_zero _ _, List.nodup_nil, fun i hi => absurd hi (Nat.not_lt_zero _), fun i hi => absurd hi (Nat.not_lt_zero _), fun i hi => absurd hi (Nat.not_lt_zero _), fun i hi => absurd hi (Nat.not_lt_zero _), fun i hi => absurd hi (Nat.not_lt_zero _), fun i j hi => absurd hi (Nat.not_lt_zero _)⟩
end Go.Proofs.Ytloinbebkhcndaa

set_option linter.all false
set_option maxRecDepth 40000
namespace Go.Proofs.Ytloinbebkhcndaa
open Go Go.Sx

theorem rem_b (v : Int) (n : Int) (hn : 0 < n) : 0 ≤ (IntKind.u64.wrap v).tmod n ∧ (IntKind.u64.wrap v).tmod n < n := by
  have h0 : 0 ≤ IntKind.u64.wrap v := by
    unfold IntKind.wrap
    simp [IntKind.signed]
    exact Int.emod_nonneg _ (by decide)
  exact ⟨Int.tmod_nonneg _ h0, Int.tmod_lt_of_pos _ hn⟩
theorem foot_row {ro : Bool} {h : List Chunk} {p : Nat} {nv : Int} {T : VT} {W : VW} (hv : VotesW ro h p nv T W) {k : Nat} {wr : Bool} {n s : Nat} {g : Nat → SV} (hk : lookH h k = .row wr n s g) : ¬ foot T W p k := by
  rintro (rfl | ⟨h1, rfl⟩ | ⟨i, hi, rfl | rfl⟩)
  · obtain ⟨fs, e, _⟩ := hv.pne
    rw [e] at hk; cases hk
  · rw [hv.tab h1] at hk
    cases ro <;> simp [mpR] at hk
  · rw [hv.set i hi] at hk; cases hk
  · rw [hv.mp i hi] at hk
    cases ro <;> simp [mpR] at hk
theorem occ_le (a : Int) (y : List Int) (j : Nat) : occ a y j ≤ j := by
  unfold occ
  exact Nat.le_trans (List.length_filter_le _ _) (by rw [List.length_take]; omega)
set_option maxHeartbeats 8000000 in
/-- QuorumMeets. -/
theorem c15l (f : Int) (q : Nat) (hq : q ≤ 9223372036854775807) (S : Nat → VoA) (x y : Str) (_ : -9223372036854775808 ≤ f ∧ f ≤ 9223372036854775807) (K : Tok → SV → List Chunk → Prop) (hK : ∀ h', K .mk (.bool true) h') :
    callP Try.prog 15 [.int .i64 f, .osl 0 0 0 2 q, .str ⟨⟨x⟩⟩, .str ⟨⟨y⟩⟩] [.row false q 2 fun i => .agg [.int .i64 (S i).v, .str ⟨⟨(S i).k⟩⟩]] K := by
  obtain ⟨m, hm⟩ : ∃ m, m = (IntKind.u64.wrap f).tmod 21 := ⟨_, rfl⟩
  have hm1 := rem_b f 21 (by omega)
  rw [← hm] at hm1
  have hm2 := hm.symm
  have w1 : IntKind.i64.wrap m = m := wrap64 (by omega) (by omega)
  have w2 : IntKind.i64.wrap (m + 1) = m + 1 := wrap64 (by omega) (by omega)
  have w3 : IntKind.i64.wrap (3 * (m + 1)) = 3 * (m + 1) := wrap64 (by omega) (by omega)
  have w4 : IntKind.i64.wrap (3 * (m + 1) + 1) = 3 * (m + 1) + 1 := wrap64 (by omega) (by omega)
  refine callP_of_code tabOk Try.func15 (by kernel_rfl) rfl (Nat.le_of_ble_eq_true rfl) (codeP_of_vc (pl := pl15) tabOk follows_mixed (by kernel_rfl) ?_)
  rw [Try.ntmps15]
  simp -implicitDefEqProofs (maxSteps := 1000000) (disch := omega) only [↓vcB, ↓gd, ↓opP, ↓qv, ↓ef, ↓bslS, ↓stS, ↓mkS, ↓rangeS, ↓nextS, ↓entryS, ↓delS, ↓mupS, ↓appS, ↓s2bS, ↓resS, evB, Sx.look, slot, ↓lkL, putS, putO, argsL, ↓reduceIte, ofV, of1, lookH, putH, List.length_cons, List.length_nil, List.length_append, List.replicate, List.append, List.cons_append, List.nil_append, List.append_assoc, List.map_cons, List.map_nil, convS, fldA, nthT, idxA, idxS, fldS, oslN, bnd, slS, unS, valI, lenS, lookS, takeC, psB, asRow, csB, Int.toNat_natCast, Int.le_refl, and_self, rdF, Ent.row, ldS, sz, szL, wrF, bldF, plT, bldS, srcS, nilS, nilEq, mapC, binH, binS2, structS, eqL, eqF, binS, arrS, isI, tupS, stor, storL, Value.oneCell', minS, maxS, capS, true_and, and_true, Nat.reduceAdd, Nat.reduceSub, Nat.reduceMul, Nat.reduceLT, Nat.reduceLeDiff, Nat.reduceEqDiff, Nat.reduceBEq, Int.reduceToNat, Int.reduceNeg, Nat.zero_add, Nat.add_zero, Nat.sub_self, Nat.sub_zero, Nat.zero_mul, Nat.mul_one, Nat.zero_le, if_true, if_false, reduceIte, stays, inL, same1, qn, ldN, convN, lenN, List.mem_cons, List.not_mem_nil, Option.map_some, Option.map_none, cond_true, cond_false, Sx.imp_true, Sx.imp_false, implies_true, Int.reduceEq, Int.reduceNe, Int.reduceLE, Int.reduceLT, decide_true, decide_false, List.zipIdx_cons, List.zipIdx_nil, or_false, false_or, forall_eq_or_imp, forall_eq, ne_eq, reduceCtorEq, not_false_eq_true, Bool.false_eq_true, Bool.true_eq_false, Bool.not_true, Bool.not_false, notInt, numB, tabB, Array.reduceGetElem?, upG, up, nth, lay, rcB, rnm, rnmL, wrB, pcB, res15, pl15, Option.isNone, hm2, w1, w2, w3, w4]
  repeat (refine ⟨by omega, ?_⟩)
  refine c69 _ _ _ ?_
  simp -implicitDefEqProofs (maxSteps := 1000000) (disch := omega) only [↓vcB, ↓gd, ↓opP, ↓qv, ↓ef, ↓bslS, ↓stS, ↓mkS, ↓rangeS, ↓nextS, ↓entryS, ↓delS, ↓mupS, ↓appS, ↓s2bS, ↓resS, evB, Sx.look, slot, ↓lkL, putS, putO, argsL, ↓reduceIte, ofV, of1, lookH, putH, List.length_cons, List.length_nil, List.length_append, List.replicate, List.append, List.cons_append, List.nil_append, List.append_assoc, List.map_cons, List.map_nil, convS, fldA, nthT, idxA, idxS, fldS, oslN, bnd, slS, unS, valI, lenS, lookS, takeC, psB, asRow, csB, Int.toNat_natCast, Int.le_refl, and_self, rdF, Ent.row, ldS, sz, szL, wrF, bldF, plT, bldS, srcS, nilS, nilEq, mapC, binH, binS2, structS, eqL, eqF, binS, arrS, isI, tupS, stor, storL, Value.oneCell', minS, maxS, capS, true_and, and_true, Nat.reduceAdd, Nat.reduceSub, Nat.reduceMul, Nat.reduceLT, Nat.reduceLeDiff, Nat.reduceEqDiff, Nat.reduceBEq, Int.reduceToNat, Int.reduceNeg, Nat.zero_add, Nat.add_zero, Nat.sub_self, Nat.sub_zero, Nat.zero_mul, Nat.mul_one, Nat.zero_le, if_true, if_false, reduceIte, stays, inL, same1, qn, ldN, convN, lenN, List.mem_cons, List.not_mem_nil, Option.map_some, Option.map_none, cond_true, cond_false, Sx.imp_true, Sx.imp_false, implies_true, Int.reduceEq, Int.reduceNe, Int.reduceLE, Int.reduceLT, decide_true, decide_false, List.zipIdx_cons, List.zipIdx_nil, or_false, false_or, forall_eq_or_imp, forall_eq, ne_eq, reduceCtorEq, not_false_eq_true, Bool.false_eq_true, Bool.true_eq_false, Bool.not_true, Bool.not_false, notInt, numB, tabB, Array.reduceGetElem?, upG, up, nth, lay, rcB, rnm, rnmL, wrB, pcB, res15, pl15, Option.isNone, hm2, w1, w2, w3, w4]
  repeat (refine ⟨by omega, ?_⟩)
  obtain ⟨N, hN⟩ : ∃ N, N = 3 * (m + 1) + 1 := ⟨_, rfl⟩
  rw [← hN]
  refine codeP_loop (pl := pl15) tabOk follows_mixed (by kernel_rfl) (fun z st => ∃ (k : Nat) (H : List Chunk) (T : VT) (W : VW) (j : Nat → Value), k + z = 300 ∧ k ≤ q ∧ T.length ≤ k ∧ inR T N ∧ VotesW false H 1 N T W ∧ lookH H 0 = (.row false q 2 fun i => .agg [.int .i64 (S i).v, .str ⟨⟨(S i).k⟩⟩]) ∧ st = ⟨⟨113, [(0, .int .i64 (m + 1)), (1, .osl 0 0 0 2 q), (2, .str ⟨⟨x⟩⟩), (3, .str ⟨⟨y⟩⟩), (9, .int .i64 N), (10, .ptr 1 0), (11, .int .i64 (k : Nat))], j⟩, H, []⟩) ?_ ?_
  · refine into_keep [(0, .int .i64 (m + 1)), (1, .osl 0 0 0 2 q), (2, .str ⟨⟨x⟩⟩), (3, .str ⟨⟨y⟩⟩), (9, .int .i64 N), (10, .ptr 1 0), (11, .int .i64 (0 : Nat))] (by simp [sameT, slot, lkL]) fun j => ⟨300, 0, _, [], _, j, by omega, by omega, Nat.zero_le _, (fun i hi => absurd hi (Nat.not_lt_zero _)), VotesW.new rfl, rfl, rfl⟩
  · rintro z st ⟨k, H, T, W, j, hk, hkq, hTk, hR, hv, h0, rfl⟩
    by_cases hkx : k < q ∧ k < 300
    · have g1 : decide ((k : Int) < q) = true := decide_eq_true (by omega)
      have g2 : decide ((k : Int) < 300) = true := decide_eq_true (by omega)
      have a1 : IntKind.i64.wrap ((k : Int) + 1) = ((k + 1 : Nat) : Int) := by rw [wrap64 (by omega) (by omega)]; omega
      obtain ⟨v, hvv⟩ : ∃ v, (IntKind.u64.wrap (S k).v).tmod N = v := ⟨_, rfl⟩
      have hvb := rem_b (S k).v N (by omega)
      rw [hvv] at hvb
      have u1 : IntKind.u64.wrap N = N := by
        unfold IntKind.wrap
        simp [IntKind.signed, IntKind.bits]
        omega
      have u2 : IntKind.i64.wrap v = v := wrap64 (by omega) (by omega)
      have u3 : (N == 0) = false := beq_eq_false_iff_ne.2 (by omega)
      simp -implicitDefEqProofs (maxSteps := 1000000) (disch := omega) only [↓vcB, ↓gd, ↓opP, ↓qv, ↓ef, ↓bslS, ↓stS, ↓mkS, ↓rangeS, ↓nextS, ↓entryS, ↓delS, ↓mupS, ↓appS, ↓s2bS, ↓resS, evB, Sx.look, slot, ↓lkL, putS, putO, argsL, ↓reduceIte, ofV, of1, lookH, putH, List.length_cons, List.length_nil, List.length_append, List.replicate, List.append, List.cons_append, List.nil_append, List.append_assoc, List.map_cons, List.map_nil, convS, fldA, nthT, idxA, idxS, fldS, oslN, bnd, slS, unS, valI, lenS, lookS, takeC, psB, asRow, csB, Int.toNat_natCast, Int.le_refl, and_self, rdF, Ent.row, ldS, sz, szL, wrF, bldF, plT, bldS, srcS, nilS, nilEq, mapC, binH, binS2, structS, eqL, eqF, binS, arrS, isI, tupS, stor, storL, Value.oneCell', minS, maxS, capS, true_and, and_true, Nat.reduceAdd, Nat.reduceSub, Nat.reduceMul, Nat.reduceLT, Nat.reduceLeDiff, Nat.reduceEqDiff, Nat.reduceBEq, Int.reduceToNat, Int.reduceNeg, Nat.zero_add, Nat.add_zero, Nat.sub_self, Nat.sub_zero, Nat.zero_mul, Nat.mul_one, Nat.zero_le, if_true, if_false, reduceIte, stays, inL, same1, qn, ldN, convN, lenN, List.mem_cons, List.not_mem_nil, Option.map_some, Option.map_none, cond_true, cond_false, Sx.imp_true, Sx.imp_false, implies_true, Int.reduceEq, Int.reduceNe, Int.reduceLE, Int.reduceLT, decide_true, decide_false, List.zipIdx_cons, List.zipIdx_nil, or_false, false_or, forall_eq_or_imp, forall_eq, ne_eq, reduceCtorEq, not_false_eq_true, Bool.false_eq_true, Bool.true_eq_false, Bool.not_true, Bool.not_false, notInt, numB, tabB, Array.reduceGetElem?, upG, up, nth, lay, rcB, rnm, rnmL, wrB, pcB, res15, pl15, Option.isNone, g1, g2, a1, u1, u2, u3, hvv, h0]
      repeat (refine ⟨by omega, ?_⟩)
      refine c70W (S k).k v hv _ (fun hb => absurd hb (by omega)) fun _ _ h' W' hv' he hf => ?_
      have h0' := he.look h0 (by simp) (foot_row hv h0)
      simp -implicitDefEqProofs (maxSteps := 1000000) (disch := omega) only [↓vcB, ↓gd, ↓opP, ↓qv, ↓ef, ↓bslS, ↓stS, ↓mkS, ↓rangeS, ↓nextS, ↓entryS, ↓delS, ↓mupS, ↓appS, ↓s2bS, ↓resS, evB, Sx.look, slot, ↓lkL, putS, putO, argsL, ↓reduceIte, ofV, of1, lookH, putH, List.length_cons, List.length_nil, List.length_append, List.replicate, List.append, List.cons_append, List.nil_append, List.append_assoc, List.map_cons, List.map_nil, convS, fldA, nthT, idxA, idxS, fldS, oslN, bnd, slS, unS, valI, lenS, lookS, takeC, psB, asRow, csB, Int.toNat_natCast, Int.le_refl, and_self, rdF, Ent.row, ldS, sz, szL, wrF, bldF, plT, bldS, srcS, nilS, nilEq, mapC, binH, binS2, structS, eqL, eqF, binS, arrS, isI, tupS, stor, storL, Value.oneCell', minS, maxS, capS, true_and, and_true, Nat.reduceAdd, Nat.reduceSub, Nat.reduceMul, Nat.reduceLT, Nat.reduceLeDiff, Nat.reduceEqDiff, Nat.reduceBEq, Int.reduceToNat, Int.reduceNeg, Nat.zero_add, Nat.add_zero, Nat.sub_self, Nat.sub_zero, Nat.zero_mul, Nat.mul_one, Nat.zero_le, if_true, if_false, reduceIte, stays, inL, same1, qn, ldN, convN, lenN, List.mem_cons, List.not_mem_nil, Option.map_some, Option.map_none, cond_true, cond_false, Sx.imp_true, Sx.imp_false, implies_true, Int.reduceEq, Int.reduceNe, Int.reduceLE, Int.reduceLT, decide_true, decide_false, List.zipIdx_cons, List.zipIdx_nil, or_false, false_or, forall_eq_or_imp, forall_eq, ne_eq, reduceCtorEq, not_false_eq_true, Bool.false_eq_true, Bool.true_eq_false, Bool.not_true, Bool.not_false, notInt, numB, tabB, Array.reduceGetElem?, upG, up, nth, lay, rcB, rnm, rnmL, wrB, pcB, res15, pl15, Option.isNone, g1, g2, a1, u1, u2, u3, hvv, h0']
      repeat (refine ⟨by omega, ?_⟩)
      refine into_keep [(0, .int .i64 (m + 1)), (1, .osl 0 0 0 2 q), (2, .str ⟨⟨x⟩⟩), (3, .str ⟨⟨y⟩⟩), (9, .int .i64 N), (10, .ptr 1 0), (11, .int .i64 (k + 1 : Nat))] (by simp [sameT, slot, lkL]) fun j => ⟨z - 1, by omega, k + 1, h', _, W', j, by omega, by omega, Nat.le_trans (addT_len _ _ _) (by omega), inR_add hR _ hvb, hv', h0', rfl⟩
    · have hx0 := inR_vof hR x
      have hy0 := inR_vof hR y
      have hlx : (vof T x).length ≤ N.toNat := nodupI_le (hv.vofn x) fun a ha => by have := hx0 a ha; omega
      have hly : (vof T y).length ≤ N.toNat := nodupI_le (hv.vofn y) fun a ha => by have := hy0 a ha; omega
      by_cases hq1 : k < q
      · have g1 : decide ((k : Int) < q) = true := decide_eq_true (by omega)
        have g2 : decide ((k : Int) < 300) = false := decide_eq_false (by omega)
        simp -implicitDefEqProofs (maxSteps := 1000000) (disch := omega) only [↓vcB, ↓gd, ↓opP, ↓qv, ↓ef, ↓bslS, ↓stS, ↓mkS, ↓rangeS, ↓nextS, ↓entryS, ↓delS, ↓mupS, ↓appS, ↓s2bS, ↓resS, evB, Sx.look, slot, ↓lkL, putS, putO, argsL, ↓reduceIte, ofV, of1, lookH, putH, List.length_cons, List.length_nil, List.length_append, List.replicate, List.append, List.cons_append, List.nil_append, List.append_assoc, List.map_cons, List.map_nil, convS, fldA, nthT, idxA, idxS, fldS, oslN, bnd, slS, unS, valI, lenS, lookS, takeC, psB, asRow, csB, Int.toNat_natCast, Int.le_refl, and_self, rdF, Ent.row, ldS, sz, szL, wrF, bldF, plT, bldS, srcS, nilS, nilEq, mapC, binH, binS2, structS, eqL, eqF, binS, arrS, isI, tupS, stor, storL, Value.oneCell', minS, maxS, capS, true_and, and_true, Nat.reduceAdd, Nat.reduceSub, Nat.reduceMul, Nat.reduceLT, Nat.reduceLeDiff, Nat.reduceEqDiff, Nat.reduceBEq, Int.reduceToNat, Int.reduceNeg, Nat.zero_add, Nat.add_zero, Nat.sub_self, Nat.sub_zero, Nat.zero_mul, Nat.mul_one, Nat.zero_le, if_true, if_false, reduceIte, stays, inL, same1, qn, ldN, convN, lenN, List.mem_cons, List.not_mem_nil, Option.map_some, Option.map_none, cond_true, cond_false, Sx.imp_true, Sx.imp_false, implies_true, Int.reduceEq, Int.reduceNe, Int.reduceLE, Int.reduceLT, decide_true, decide_false, List.zipIdx_cons, List.zipIdx_nil, or_false, false_or, forall_eq_or_imp, forall_eq, ne_eq, reduceCtorEq, not_false_eq_true, Bool.false_eq_true, Bool.true_eq_false, Bool.not_true, Bool.not_false, notInt, numB, tabB, Array.reduceGetElem?, upG, up, nth, lay, rcB, rnm, rnmL, wrB, pcB, res15, pl15, Option.isNone, g1, g2, h0, sl_eq]
        repeat (refine ⟨by omega, ?_⟩)
        refine c71W x hv (by omega) _ fun X l1 r1 hX hr1 hr1' => ?_
        simp -implicitDefEqProofs (maxSteps := 1000000) (disch := omega) only [↓vcB, ↓gd, ↓opP, ↓qv, ↓ef, ↓bslS, ↓stS, ↓mkS, ↓rangeS, ↓nextS, ↓entryS, ↓delS, ↓mupS, ↓appS, ↓s2bS, ↓resS, evB, Sx.look, slot, ↓lkL, putS, putO, argsL, ↓reduceIte, ofV, of1, lookH, putH, List.length_cons, List.length_nil, List.length_append, List.replicate, List.append, List.cons_append, List.nil_append, List.append_assoc, List.map_cons, List.map_nil, convS, fldA, nthT, idxA, idxS, fldS, oslN, bnd, slS, unS, valI, lenS, lookS, takeC, psB, asRow, csB, Int.toNat_natCast, Int.le_refl, and_self, rdF, Ent.row, ldS, sz, szL, wrF, bldF, plT, bldS, srcS, nilS, nilEq, mapC, binH, binS2, structS, eqL, eqF, binS, arrS, isI, tupS, stor, storL, Value.oneCell', minS, maxS, capS, true_and, and_true, Nat.reduceAdd, Nat.reduceSub, Nat.reduceMul, Nat.reduceLT, Nat.reduceLeDiff, Nat.reduceEqDiff, Nat.reduceBEq, Int.reduceToNat, Int.reduceNeg, Nat.zero_add, Nat.add_zero, Nat.sub_self, Nat.sub_zero, Nat.zero_mul, Nat.mul_one, Nat.zero_le, if_true, if_false, reduceIte, stays, inL, same1, qn, ldN, convN, lenN, List.mem_cons, List.not_mem_nil, Option.map_some, Option.map_none, cond_true, cond_false, Sx.imp_true, Sx.imp_false, implies_true, Int.reduceEq, Int.reduceNe, Int.reduceLE, Int.reduceLT, decide_true, decide_false, List.zipIdx_cons, List.zipIdx_nil, or_false, false_or, forall_eq_or_imp, forall_eq, ne_eq, reduceCtorEq, not_false_eq_true, Bool.false_eq_true, Bool.true_eq_false, Bool.not_true, Bool.not_false, notInt, numB, tabB, Array.reduceGetElem?, upG, up, nth, lay, rcB, rnm, rnmL, wrB, pcB, res15, pl15, Option.isNone, g1, g2, h0, sl_eq]
        repeat (refine ⟨by omega, ?_⟩)
        refine c71W y (hv.app l1) (by omega) _ fun Y l2 r2 hY hr2 hr2' => ?_
        obtain ⟨H2, hH2⟩ : ∃ H2, H2 = H ++ l1 ++ l2 := ⟨_, rfl⟩
        rw [← hH2]
        simp -implicitDefEqProofs (maxSteps := 1000000) (disch := omega) only [↓vcB, ↓gd, ↓opP, ↓qv, ↓ef, ↓bslS, ↓stS, ↓mkS, ↓rangeS, ↓nextS, ↓entryS, ↓delS, ↓mupS, ↓appS, ↓s2bS, ↓resS, evB, Sx.look, slot, ↓lkL, putS, putO, argsL, ↓reduceIte, ofV, of1, lookH, putH, List.length_cons, List.length_nil, List.length_append, List.replicate, List.append, List.cons_append, List.nil_append, List.append_assoc, List.map_cons, List.map_nil, convS, fldA, nthT, idxA, idxS, fldS, oslN, bnd, slS, unS, valI, lenS, lookS, takeC, psB, asRow, csB, Int.toNat_natCast, Int.le_refl, and_self, rdF, Ent.row, ldS, sz, szL, wrF, bldF, plT, bldS, srcS, nilS, nilEq, mapC, binH, binS2, structS, eqL, eqF, binS, arrS, isI, tupS, stor, storL, Value.oneCell', minS, maxS, capS, true_and, and_true, Nat.reduceAdd, Nat.reduceSub, Nat.reduceMul, Nat.reduceLT, Nat.reduceLeDiff, Nat.reduceEqDiff, Nat.reduceBEq, Int.reduceToNat, Int.reduceNeg, Nat.zero_add, Nat.add_zero, Nat.sub_self, Nat.sub_zero, Nat.zero_mul, Nat.mul_one, Nat.zero_le, if_true, if_false, reduceIte, stays, inL, same1, qn, ldN, convN, lenN, List.mem_cons, List.not_mem_nil, Option.map_some, Option.map_none, cond_true, cond_false, Sx.imp_true, Sx.imp_false, implies_true, Int.reduceEq, Int.reduceNe, Int.reduceLE, Int.reduceLT, decide_true, decide_false, List.zipIdx_cons, List.zipIdx_nil, or_false, false_or, forall_eq_or_imp, forall_eq, ne_eq, reduceCtorEq, not_false_eq_true, Bool.false_eq_true, Bool.true_eq_false, Bool.not_true, Bool.not_false, notInt, numB, tabB, Array.reduceGetElem?, upG, up, nth, lay, rcB, rnm, rnmL, wrB, pcB, res15, pl15, Option.isNone, g1, g2, h0, sl_eq]
        repeat (refine ⟨by omega, ?_⟩)
        have hv2 : VotesW false H2 1 N T W := by rw [hH2]; exact (hv.app l1).app l2
        have hr1 : lookH H2 r1 = .row true X.length 1 fun i => .int .i64 (X.getD i 0) := by rw [hH2, lookH_at _ (lookH_lt hr1' (by simp))]; exact hr1'
        have hr2 : lookH H2 r2 = .row true Y.length 1 fun i => .int .i64 (Y.getD i 0) := by rw [hH2]; exact hr2'
        have hlen : 1 ≤ H2.length := Nat.lt_of_le_of_lt (Nat.zero_le _) (lookH_lt hr1 (by simp))
        cases gxy : (x == y) with
        | true =>
          simp -implicitDefEqProofs (maxSteps := 1000000) (disch := omega) only [↓vcB, ↓gd, ↓opP, ↓qv, ↓ef, ↓bslS, ↓stS, ↓mkS, ↓rangeS, ↓nextS, ↓entryS, ↓delS, ↓mupS, ↓appS, ↓s2bS, ↓resS, evB, Sx.look, slot, ↓lkL, putS, putO, argsL, ↓reduceIte, ofV, of1, lookH, putH, List.length_cons, List.length_nil, List.length_append, List.replicate, List.append, List.cons_append, List.nil_append, List.append_assoc, List.map_cons, List.map_nil, convS, fldA, nthT, idxA, idxS, fldS, oslN, bnd, slS, unS, valI, lenS, lookS, takeC, psB, asRow, csB, Int.toNat_natCast, Int.le_refl, and_self, rdF, Ent.row, ldS, sz, szL, wrF, bldF, plT, bldS, srcS, nilS, nilEq, mapC, binH, binS2, structS, eqL, eqF, binS, arrS, isI, tupS, stor, storL, Value.oneCell', minS, maxS, capS, true_and, and_true, Nat.reduceAdd, Nat.reduceSub, Nat.reduceMul, Nat.reduceLT, Nat.reduceLeDiff, Nat.reduceEqDiff, Nat.reduceBEq, Int.reduceToNat, Int.reduceNeg, Nat.zero_add, Nat.add_zero, Nat.sub_self, Nat.sub_zero, Nat.zero_mul, Nat.mul_one, Nat.zero_le, if_true, if_false, reduceIte, stays, inL, same1, qn, ldN, convN, lenN, List.mem_cons, List.not_mem_nil, Option.map_some, Option.map_none, cond_true, cond_false, Sx.imp_true, Sx.imp_false, implies_true, Int.reduceEq, Int.reduceNe, Int.reduceLE, Int.reduceLT, decide_true, decide_false, List.zipIdx_cons, List.zipIdx_nil, or_false, false_or, forall_eq_or_imp, forall_eq, ne_eq, reduceCtorEq, not_false_eq_true, Bool.false_eq_true, Bool.true_eq_false, Bool.not_true, Bool.not_false, notInt, numB, tabB, Array.reduceGetElem?, upG, up, nth, lay, rcB, rnm, rnmL, wrB, pcB, res15, pl15, Option.isNone, g1, g2, h0, gxy, sl_eq]
          repeat (refine ⟨by omega, ?_⟩)
          refine c25 _ _ ?_
          simp -implicitDefEqProofs (maxSteps := 1000000) (disch := omega) only [↓vcB, ↓gd, ↓opP, ↓qv, ↓ef, ↓bslS, ↓stS, ↓mkS, ↓rangeS, ↓nextS, ↓entryS, ↓delS, ↓mupS, ↓appS, ↓s2bS, ↓resS, evB, Sx.look, slot, ↓lkL, putS, putO, argsL, ↓reduceIte, ofV, of1, lookH, putH, List.length_cons, List.length_nil, List.length_append, List.replicate, List.append, List.cons_append, List.nil_append, List.append_assoc, List.map_cons, List.map_nil, convS, fldA, nthT, idxA, idxS, fldS, oslN, bnd, slS, unS, valI, lenS, lookS, takeC, psB, asRow, csB, Int.toNat_natCast, Int.le_refl, and_self, rdF, Ent.row, ldS, sz, szL, wrF, bldF, plT, bldS, srcS, nilS, nilEq, mapC, binH, binS2, structS, eqL, eqF, binS, arrS, isI, tupS, stor, storL, Value.oneCell', minS, maxS, capS, true_and, and_true, Nat.reduceAdd, Nat.reduceSub, Nat.reduceMul, Nat.reduceLT, Nat.reduceLeDiff, Nat.reduceEqDiff, Nat.reduceBEq, Int.reduceToNat, Int.reduceNeg, Nat.zero_add, Nat.add_zero, Nat.sub_self, Nat.sub_zero, Nat.zero_mul, Nat.mul_one, Nat.zero_le, if_true, if_false, reduceIte, stays, inL, same1, qn, ldN, convN, lenN, List.mem_cons, List.not_mem_nil, Option.map_some, Option.map_none, cond_true, cond_false, Sx.imp_true, Sx.imp_false, implies_true, Int.reduceEq, Int.reduceNe, Int.reduceLE, Int.reduceLT, decide_true, decide_false, List.zipIdx_cons, List.zipIdx_nil, or_false, false_or, forall_eq_or_imp, forall_eq, ne_eq, reduceCtorEq, not_false_eq_true, Bool.false_eq_true, Bool.true_eq_false, Bool.not_true, Bool.not_false, notInt, numB, tabB, Array.reduceGetElem?, upG, up, nth, lay, rcB, rnm, rnmL, wrB, pcB, res15, pl15, Option.isNone, g1, g2, h0, gxy, sl_eq]
          repeat (refine ⟨by omega, ?_⟩)
          exact intoR_refl hlen (hK _)
        | false =>
          simp -implicitDefEqProofs (maxSteps := 1000000) (disch := omega) only [↓vcB, ↓gd, ↓opP, ↓qv, ↓ef, ↓bslS, ↓stS, ↓mkS, ↓rangeS, ↓nextS, ↓entryS, ↓delS, ↓mupS, ↓appS, ↓s2bS, ↓resS, evB, Sx.look, slot, ↓lkL, putS, putO, argsL, ↓reduceIte, ofV, of1, lookH, putH, List.length_cons, List.length_nil, List.length_append, List.replicate, List.append, List.cons_append, List.nil_append, List.append_assoc, List.map_cons, List.map_nil, convS, fldA, nthT, idxA, idxS, fldS, oslN, bnd, slS, unS, valI, lenS, lookS, takeC, psB, asRow, csB, Int.toNat_natCast, Int.le_refl, and_self, rdF, Ent.row, ldS, sz, szL, wrF, bldF, plT, bldS, srcS, nilS, nilEq, mapC, binH, binS2, structS, eqL, eqF, binS, arrS, isI, tupS, stor, storL, Value.oneCell', minS, maxS, capS, true_and, and_true, Nat.reduceAdd, Nat.reduceSub, Nat.reduceMul, Nat.reduceLT, Nat.reduceLeDiff, Nat.reduceEqDiff, Nat.reduceBEq, Int.reduceToNat, Int.reduceNeg, Nat.zero_add, Nat.add_zero, Nat.sub_self, Nat.sub_zero, Nat.zero_mul, Nat.mul_one, Nat.zero_le, if_true, if_false, reduceIte, stays, inL, same1, qn, ldN, convN, lenN, List.mem_cons, List.not_mem_nil, Option.map_some, Option.map_none, cond_true, cond_false, Sx.imp_true, Sx.imp_false, implies_true, Int.reduceEq, Int.reduceNe, Int.reduceLE, Int.reduceLT, decide_true, decide_false, List.zipIdx_cons, List.zipIdx_nil, or_false, false_or, forall_eq_or_imp, forall_eq, ne_eq, reduceCtorEq, not_false_eq_true, Bool.false_eq_true, Bool.true_eq_false, Bool.not_true, Bool.not_false, notInt, numB, tabB, Array.reduceGetElem?, upG, up, nth, lay, rcB, rnm, rnmL, wrB, pcB, res15, pl15, Option.isNone, g1, g2, h0, gxy, sl_eq]
          repeat (refine ⟨by omega, ?_⟩)
          refine c72W x hv2 _ ?_
          simp -implicitDefEqProofs (maxSteps := 1000000) (disch := omega) only [↓vcB, ↓gd, ↓opP, ↓qv, ↓ef, ↓bslS, ↓stS, ↓mkS, ↓rangeS, ↓nextS, ↓entryS, ↓delS, ↓mupS, ↓appS, ↓s2bS, ↓resS, evB, Sx.look, slot, ↓lkL, putS, putO, argsL, ↓reduceIte, ofV, of1, lookH, putH, List.length_cons, List.length_nil, List.length_append, List.replicate, List.append, List.cons_append, List.nil_append, List.append_assoc, List.map_cons, List.map_nil, convS, fldA, nthT, idxA, idxS, fldS, oslN, bnd, slS, unS, valI, lenS, lookS, takeC, psB, asRow, csB, Int.toNat_natCast, Int.le_refl, and_self, rdF, Ent.row, ldS, sz, szL, wrF, bldF, plT, bldS, srcS, nilS, nilEq, mapC, binH, binS2, structS, eqL, eqF, binS, arrS, isI, tupS, stor, storL, Value.oneCell', minS, maxS, capS, true_and, and_true, Nat.reduceAdd, Nat.reduceSub, Nat.reduceMul, Nat.reduceLT, Nat.reduceLeDiff, Nat.reduceEqDiff, Nat.reduceBEq, Int.reduceToNat, Int.reduceNeg, Nat.zero_add, Nat.add_zero, Nat.sub_self, Nat.sub_zero, Nat.zero_mul, Nat.mul_one, Nat.zero_le, if_true, if_false, reduceIte, stays, inL, same1, qn, ldN, convN, lenN, List.mem_cons, List.not_mem_nil, Option.map_some, Option.map_none, cond_true, cond_false, Sx.imp_true, Sx.imp_false, implies_true, Int.reduceEq, Int.reduceNe, Int.reduceLE, Int.reduceLT, decide_true, decide_false, List.zipIdx_cons, List.zipIdx_nil, or_false, false_or, forall_eq_or_imp, forall_eq, ne_eq, reduceCtorEq, not_false_eq_true, Bool.false_eq_true, Bool.true_eq_false, Bool.not_true, Bool.not_false, notInt, numB, tabB, Array.reduceGetElem?, upG, up, nth, lay, rcB, rnm, rnmL, wrB, pcB, res15, pl15, Option.isNone, g1, g2, h0, gxy, sl_eq]
          repeat (refine ⟨by omega, ?_⟩)
          refine c21 N ⟨by omega, by omega⟩ _ _ ?_
          by_cases q1 : ((cnt T x : Nat) : Int) < qS N
          · have g3 : decide (((cnt T x : Nat) : Int) < qS N) = true := decide_eq_true q1
            simp -implicitDefEqProofs (maxSteps := 1000000) (disch := omega) only [↓vcB, ↓gd, ↓opP, ↓qv, ↓ef, ↓bslS, ↓stS, ↓mkS, ↓rangeS, ↓nextS, ↓entryS, ↓delS, ↓mupS, ↓appS, ↓s2bS, ↓resS, evB, Sx.look, slot, ↓lkL, putS, putO, argsL, ↓reduceIte, ofV, of1, lookH, putH, List.length_cons, List.length_nil, List.length_append, List.replicate, List.append, List.cons_append, List.nil_append, List.append_assoc, List.map_cons, List.map_nil, convS, fldA, nthT, idxA, idxS, fldS, oslN, bnd, slS, unS, valI, lenS, lookS, takeC, psB, asRow, csB, Int.toNat_natCast, Int.le_refl, and_self, rdF, Ent.row, ldS, sz, szL, wrF, bldF, plT, bldS, srcS, nilS, nilEq, mapC, binH, binS2, structS, eqL, eqF, binS, arrS, isI, tupS, stor, storL, Value.oneCell', minS, maxS, capS, true_and, and_true, Nat.reduceAdd, Nat.reduceSub, Nat.reduceMul, Nat.reduceLT, Nat.reduceLeDiff, Nat.reduceEqDiff, Nat.reduceBEq, Int.reduceToNat, Int.reduceNeg, Nat.zero_add, Nat.add_zero, Nat.sub_self, Nat.sub_zero, Nat.zero_mul, Nat.mul_one, Nat.zero_le, if_true, if_false, reduceIte, stays, inL, same1, qn, ldN, convN, lenN, List.mem_cons, List.not_mem_nil, Option.map_some, Option.map_none, cond_true, cond_false, Sx.imp_true, Sx.imp_false, implies_true, Int.reduceEq, Int.reduceNe, Int.reduceLE, Int.reduceLT, decide_true, decide_false, List.zipIdx_cons, List.zipIdx_nil, or_false, false_or, forall_eq_or_imp, forall_eq, ne_eq, reduceCtorEq, not_false_eq_true, Bool.false_eq_true, Bool.true_eq_false, Bool.not_true, Bool.not_false, notInt, numB, tabB, Array.reduceGetElem?, upG, up, nth, lay, rcB, rnm, rnmL, wrB, pcB, res15, pl15, Option.isNone, g1, g2, h0, gxy, g3, sl_eq]
            repeat (refine ⟨by omega, ?_⟩)
            refine c25 _ _ ?_
            simp -implicitDefEqProofs (maxSteps := 1000000) (disch := omega) only [↓vcB, ↓gd, ↓opP, ↓qv, ↓ef, ↓bslS, ↓stS, ↓mkS, ↓rangeS, ↓nextS, ↓entryS, ↓delS, ↓mupS, ↓appS, ↓s2bS, ↓resS, evB, Sx.look, slot, ↓lkL, putS, putO, argsL, ↓reduceIte, ofV, of1, lookH, putH, List.length_cons, List.length_nil, List.length_append, List.replicate, List.append, List.cons_append, List.nil_append, List.append_assoc, List.map_cons, List.map_nil, convS, fldA, nthT, idxA, idxS, fldS, oslN, bnd, slS, unS, valI, lenS, lookS, takeC, psB, asRow, csB, Int.toNat_natCast, Int.le_refl, and_self, rdF, Ent.row, ldS, sz, szL, wrF, bldF, plT, bldS, srcS, nilS, nilEq, mapC, binH, binS2, structS, eqL, eqF, binS, arrS, isI, tupS, stor, storL, Value.oneCell', minS, maxS, capS, true_and, and_true, Nat.reduceAdd, Nat.reduceSub, Nat.reduceMul, Nat.reduceLT, Nat.reduceLeDiff, Nat.reduceEqDiff, Nat.reduceBEq, Int.reduceToNat, Int.reduceNeg, Nat.zero_add, Nat.add_zero, Nat.sub_self, Nat.sub_zero, Nat.zero_mul, Nat.mul_one, Nat.zero_le, if_true, if_false, reduceIte, stays, inL, same1, qn, ldN, convN, lenN, List.mem_cons, List.not_mem_nil, Option.map_some, Option.map_none, cond_true, cond_false, Sx.imp_true, Sx.imp_false, implies_true, Int.reduceEq, Int.reduceNe, Int.reduceLE, Int.reduceLT, decide_true, decide_false, List.zipIdx_cons, List.zipIdx_nil, or_false, false_or, forall_eq_or_imp, forall_eq, ne_eq, reduceCtorEq, not_false_eq_true, Bool.false_eq_true, Bool.true_eq_false, Bool.not_true, Bool.not_false, notInt, numB, tabB, Array.reduceGetElem?, upG, up, nth, lay, rcB, rnm, rnmL, wrB, pcB, res15, pl15, Option.isNone, g1, g2, h0, gxy, g3, sl_eq]
            repeat (refine ⟨by omega, ?_⟩)
            exact intoR_refl hlen (hK _)
          · have g3 : decide (((cnt T x : Nat) : Int) < qS N) = false := decide_eq_false q1
            simp -implicitDefEqProofs (maxSteps := 1000000) (disch := omega) only [↓vcB, ↓gd, ↓opP, ↓qv, ↓ef, ↓bslS, ↓stS, ↓mkS, ↓rangeS, ↓nextS, ↓entryS, ↓delS, ↓mupS, ↓appS, ↓s2bS, ↓resS, evB, Sx.look, slot, ↓lkL, putS, putO, argsL, ↓reduceIte, ofV, of1, lookH, putH, List.length_cons, List.length_nil, List.length_append, List.replicate, List.append, List.cons_append, List.nil_append, List.append_assoc, List.map_cons, List.map_nil, convS, fldA, nthT, idxA, idxS, fldS, oslN, bnd, slS, unS, valI, lenS, lookS, takeC, psB, asRow, csB, Int.toNat_natCast, Int.le_refl, and_self, rdF, Ent.row, ldS, sz, szL, wrF, bldF, plT, bldS, srcS, nilS, nilEq, mapC, binH, binS2, structS, eqL, eqF, binS, arrS, isI, tupS, stor, storL, Value.oneCell', minS, maxS, capS, true_and, and_true, Nat.reduceAdd, Nat.reduceSub, Nat.reduceMul, Nat.reduceLT, Nat.reduceLeDiff, Nat.reduceEqDiff, Nat.reduceBEq, Int.reduceToNat, Int.reduceNeg, Nat.zero_add, Nat.add_zero, Nat.sub_self, Nat.sub_zero, Nat.zero_mul, Nat.mul_one, Nat.zero_le, if_true, if_false, reduceIte, stays, inL, same1, qn, ldN, convN, lenN, List.mem_cons, List.not_mem_nil, Option.map_some, Option.map_none, cond_true, cond_false, Sx.imp_true, Sx.imp_false, implies_true, Int.reduceEq, Int.reduceNe, Int.reduceLE, Int.reduceLT, decide_true, decide_false, List.zipIdx_cons, List.zipIdx_nil, or_false, false_or, forall_eq_or_imp, forall_eq, ne_eq, reduceCtorEq, not_false_eq_true, Bool.false_eq_true, Bool.true_eq_false, Bool.not_true, Bool.not_false, notInt, numB, tabB, Array.reduceGetElem?, upG, up, nth, lay, rcB, rnm, rnmL, wrB, pcB, res15, pl15, Option.isNone, g1, g2, h0, gxy, g3, sl_eq]
            repeat (refine ⟨by omega, ?_⟩)
            refine c72W y hv2 _ ?_
            simp -implicitDefEqProofs (maxSteps := 1000000) (disch := omega) only [↓vcB, ↓gd, ↓opP, ↓qv, ↓ef, ↓bslS, ↓stS, ↓mkS, ↓rangeS, ↓nextS, ↓entryS, ↓delS, ↓mupS, ↓appS, ↓s2bS, ↓resS, evB, Sx.look, slot, ↓lkL, putS, putO, argsL, ↓reduceIte, ofV, of1, lookH, putH, List.length_cons, List.length_nil, List.length_append, List.replicate, List.append, List.cons_append, List.nil_append, List.append_assoc, List.map_cons, List.map_nil, convS, fldA, nthT, idxA, idxS, fldS, oslN, bnd, slS, unS, valI, lenS, lookS, takeC, psB, asRow, csB, Int.toNat_natCast, Int.le_refl, and_self, rdF, Ent.row, ldS, sz, szL, wrF, bldF, plT, bldS, srcS, nilS, nilEq, mapC, binH, binS2, structS, eqL, eqF, binS, arrS, isI, tupS, stor, storL, Value.oneCell', minS, maxS, capS, true_and, and_true, Nat.reduceAdd, Nat.reduceSub, Nat.reduceMul, Nat.reduceLT, Nat.reduceLeDiff, Nat.reduceEqDiff, Nat.reduceBEq, Int.reduceToNat, Int.reduceNeg, Nat.zero_add, Nat.add_zero, Nat.sub_self, Nat.sub_zero, Nat.zero_mul, Nat.mul_one, Nat.zero_le, if_true, if_false, reduceIte, stays, inL, same1, qn, ldN, convN, lenN, List.mem_cons, List.not_mem_nil, Option.map_some, Option.map_none, cond_true, cond_false, Sx.imp_true, Sx.imp_false, implies_true, Int.reduceEq, Int.reduceNe, Int.reduceLE, Int.reduceLT, decide_true, decide_false, List.zipIdx_cons, List.zipIdx_nil, or_false, false_or, forall_eq_or_imp, forall_eq, ne_eq, reduceCtorEq, not_false_eq_true, Bool.false_eq_true, Bool.true_eq_false, Bool.not_true, Bool.not_false, notInt, numB, tabB, Array.reduceGetElem?, upG, up, nth, lay, rcB, rnm, rnmL, wrB, pcB, res15, pl15, Option.isNone, g1, g2, h0, gxy, g3, sl_eq]
            repeat (refine ⟨by omega, ?_⟩)
            refine c21 N ⟨by omega, by omega⟩ _ _ ?_
            by_cases q2 : ((cnt T y : Nat) : Int) < qS N
            · have g4 : decide (((cnt T y : Nat) : Int) < qS N) = true := decide_eq_true q2
              simp -implicitDefEqProofs (maxSteps := 1000000) (disch := omega) only [↓vcB, ↓gd, ↓opP, ↓qv, ↓ef, ↓bslS, ↓stS, ↓mkS, ↓rangeS, ↓nextS, ↓entryS, ↓delS, ↓mupS, ↓appS, ↓s2bS, ↓resS, evB, Sx.look, slot, ↓lkL, putS, putO, argsL, ↓reduceIte, ofV, of1, lookH, putH, List.length_cons, List.length_nil, List.length_append, List.replicate, List.append, List.cons_append, List.nil_append, List.append_assoc, List.map_cons, List.map_nil, convS, fldA, nthT, idxA, idxS, fldS, oslN, bnd, slS, unS, valI, lenS, lookS, takeC, psB, asRow, csB, Int.toNat_natCast, Int.le_refl, and_self, rdF, Ent.row, ldS, sz, szL, wrF, bldF, plT, bldS, srcS, nilS, nilEq, mapC, binH, binS2, structS, eqL, eqF, binS, arrS, isI, tupS, stor, storL, Value.oneCell', minS, maxS, capS, true_and, and_true, Nat.reduceAdd, Nat.reduceSub, Nat.reduceMul, Nat.reduceLT, Nat.reduceLeDiff, Nat.reduceEqDiff, Nat.reduceBEq, Int.reduceToNat, Int.reduceNeg, Nat.zero_add, Nat.add_zero, Nat.sub_self, Nat.sub_zero, Nat.zero_mul, Nat.mul_one, Nat.zero_le, if_true, if_false, reduceIte, stays, inL, same1, qn, ldN, convN, lenN, List.mem_cons, List.not_mem_nil, Option.map_some, Option.map_none, cond_true, cond_false, Sx.imp_true, Sx.imp_false, implies_true, Int.reduceEq, Int.reduceNe, Int.reduceLE, Int.reduceLT, decide_true, decide_false, List.zipIdx_cons, List.zipIdx_nil, or_false, false_or, forall_eq_or_imp, forall_eq, ne_eq, reduceCtorEq, not_false_eq_true, Bool.false_eq_true, Bool.true_eq_false, Bool.not_true, Bool.not_false, notInt, numB, tabB, Array.reduceGetElem?, upG, up, nth, lay, rcB, rnm, rnmL, wrB, pcB, res15, pl15, Option.isNone, g1, g2, h0, gxy, g3, g4, sl_eq]
              repeat (refine ⟨by omega, ?_⟩)
              refine c25 _ _ ?_
              simp -implicitDefEqProofs (maxSteps := 1000000) (disch := omega) only [↓vcB, ↓gd, ↓opP, ↓qv, ↓ef, ↓bslS, ↓stS, ↓mkS, ↓rangeS, ↓nextS, ↓entryS, ↓delS, ↓mupS, ↓appS, ↓s2bS, ↓resS, evB, Sx.look, slot, ↓lkL, putS, putO, argsL, ↓reduceIte, ofV, of1, lookH, putH, List.length_cons, List.length_nil, List.length_append, List.replicate, List.append, List.cons_append, List.nil_append, List.append_assoc, List.map_cons, List.map_nil, convS, fldA, nthT, idxA, idxS, fldS, oslN, bnd, slS, unS, valI, lenS, lookS, takeC, psB, asRow, csB, Int.toNat_natCast, Int.le_refl, and_self, rdF, Ent.row, ldS, sz, szL, wrF, bldF, plT, bldS, srcS, nilS, nilEq, mapC, binH, binS2, structS, eqL, eqF, binS, arrS, isI, tupS, stor, storL, Value.oneCell', minS, maxS, capS, true_and, and_true, Nat.reduceAdd, Nat.reduceSub, Nat.reduceMul, Nat.reduceLT, Nat.reduceLeDiff, Nat.reduceEqDiff, Nat.reduceBEq, Int.reduceToNat, Int.reduceNeg, Nat.zero_add, Nat.add_zero, Nat.sub_self, Nat.sub_zero, Nat.zero_mul, Nat.mul_one, Nat.zero_le, if_true, if_false, reduceIte, stays, inL, same1, qn, ldN, convN, lenN, List.mem_cons, List.not_mem_nil, Option.map_some, Option.map_none, cond_true, cond_false, Sx.imp_true, Sx.imp_false, implies_true, Int.reduceEq, Int.reduceNe, Int.reduceLE, Int.reduceLT, decide_true, decide_false, List.zipIdx_cons, List.zipIdx_nil, or_false, false_or, forall_eq_or_imp, forall_eq, ne_eq, reduceCtorEq, not_false_eq_true, Bool.false_eq_true, Bool.true_eq_false, Bool.not_true, Bool.not_false, notInt, numB, tabB, Array.reduceGetElem?, upG, up, nth, lay, rcB, rnm, rnmL, wrB, pcB, res15, pl15, Option.isNone, g1, g2, h0, gxy, g3, g4, sl_eq]
              repeat (refine ⟨by omega, ?_⟩)
              exact intoR_refl hlen (hK _)
            · have g4 : decide (((cnt T y : Nat) : Int) < qS N) = false := decide_eq_false q2
              rw [cnt_vof] at q1 q2
              have lX : X.length = (vof T x).length := by rw [hX, List.length_mergeSort]
              have lY : Y.length = (vof T y).length := by rw [hY, List.length_mergeSort]
              have nX : X.Nodup := by rw [hX]; exact (List.mergeSort_perm _ _).nodup_iff.2 (hv.vofn x)
              have nY : Y.Nodup := by rw [hY]; exact (List.mergeSort_perm _ _).nodup_iff.2 (hv.vofn y)
              have hN0 : (N.toNat : Int) = N := by omega
              have bX : ∀ a ∈ X, 0 ≤ a ∧ a < N.toNat := fun a ha => by rw [hX] at ha; rw [hN0]; exact hx0 a ((List.mergeSort_perm _ _).mem_iff.1 ha)
              have bY : ∀ a ∈ Y, 0 ≤ a ∧ a < N.toNat := fun a ha => by rw [hY] at ha; rw [hN0]; exact hy0 a ((List.mergeSort_perm _ _).mem_iff.1 ha)
              have hmeet := meet_le nX nY bX bY
              have hqF : qF N = m + 1 := by unfold qF; rw [if_neg (by omega), Int.tdiv_eq_ediv_of_nonneg (by omega)]; omega
              have hqS : qS N = 2 * qF N + 1 := by unfold qS; rw [if_neg (by omega)]
              have hqW : qW N = qF N + 1 := by unfold qW; rw [if_neg (by omega)]
              have hp : ∀ i, i ≤ X.length → prs X Y i ≤ i := fun i hi => by rw [prs_eq X nY i hi]; exact Nat.le_trans (List.length_filter_le _ _) (by rw [List.length_take]; omega)
              simp -implicitDefEqProofs (maxSteps := 1000000) (disch := omega) only [↓vcB, ↓gd, ↓opP, ↓qv, ↓ef, ↓bslS, ↓stS, ↓mkS, ↓rangeS, ↓nextS, ↓entryS, ↓delS, ↓mupS, ↓appS, ↓s2bS, ↓resS, evB, Sx.look, slot, ↓lkL, putS, putO, argsL, ↓reduceIte, ofV, of1, lookH, putH, List.length_cons, List.length_nil, List.length_append, List.replicate, List.append, List.cons_append, List.nil_append, List.append_assoc, List.map_cons, List.map_nil, convS, fldA, nthT, idxA, idxS, fldS, oslN, bnd, slS, unS, valI, lenS, lookS, takeC, psB, asRow, csB, Int.toNat_natCast, Int.le_refl, and_self, rdF, Ent.row, ldS, sz, szL, wrF, bldF, plT, bldS, srcS, nilS, nilEq, mapC, binH, binS2, structS, eqL, eqF, binS, arrS, isI, tupS, stor, storL, Value.oneCell', minS, maxS, capS, true_and, and_true, Nat.reduceAdd, Nat.reduceSub, Nat.reduceMul, Nat.reduceLT, Nat.reduceLeDiff, Nat.reduceEqDiff, Nat.reduceBEq, Int.reduceToNat, Int.reduceNeg, Nat.zero_add, Nat.add_zero, Nat.sub_self, Nat.sub_zero, Nat.zero_mul, Nat.mul_one, Nat.zero_le, if_true, if_false, reduceIte, stays, inL, same1, qn, ldN, convN, lenN, List.mem_cons, List.not_mem_nil, Option.map_some, Option.map_none, cond_true, cond_false, Sx.imp_true, Sx.imp_false, implies_true, Int.reduceEq, Int.reduceNe, Int.reduceLE, Int.reduceLT, decide_true, decide_false, List.zipIdx_cons, List.zipIdx_nil, or_false, false_or, forall_eq_or_imp, forall_eq, ne_eq, reduceCtorEq, not_false_eq_true, Bool.false_eq_true, Bool.true_eq_false, Bool.not_true, Bool.not_false, notInt, numB, tabB, Array.reduceGetElem?, upG, up, nth, lay, rcB, rnm, rnmL, wrB, pcB, res15, pl15, Option.isNone, g1, g2, h0, gxy, g3, g4, sl_eq]
              repeat (refine ⟨by omega, ?_⟩)
              refine codeP_loop (pl := pl15) tabOk follows_mixed (by kernel_rfl) (fun z st => ∃ (i : Nat) (j : Nat → Value), i + z = X.length ∧ st = ⟨⟨113, [(0, .int .i64 (m + 1)), (9, .int .i64 N), (13, .osl r2 0 0 1 Y.length), (14, .int .i64 ((prs X Y i) : Nat)), (82, .osl r1 0 0 1 X.length), (83, .int .i64 (X.length : Nat)), (84, .int .i64 (i : Nat))], j⟩, H2, []⟩) ?_ ?_
              · refine into_keep [(0, .int .i64 (m + 1)), (9, .int .i64 N), (13, .osl r2 0 0 1 Y.length), (14, .int .i64 ((prs X Y 0) : Nat)), (82, .osl r1 0 0 1 X.length), (83, .int .i64 (X.length : Nat)), (84, .int .i64 (0 : Nat))] (by simp [sameT, slot, lkL, prs]) fun j => ⟨X.length, 0, j, by omega, rfl⟩
              · rintro z st ⟨i, j, hi, rfl⟩
                by_cases hix : i < X.length
                · have g5 : decide ((i : Int) < (X.length : Nat)) = true := decide_eq_true (by omega)
                  have a2 : IntKind.i64.wrap ((i : Int) + 1) = ((i + 1 : Nat) : Int) := by rw [wrap64 (by omega) (by omega)]; omega
                  have hpi := hp i (by omega)
                  simp -implicitDefEqProofs (maxSteps := 1000000) (disch := omega) only [↓vcB, ↓gd, ↓opP, ↓qv, ↓ef, ↓bslS, ↓stS, ↓mkS, ↓rangeS, ↓nextS, ↓entryS, ↓delS, ↓mupS, ↓appS, ↓s2bS, ↓resS, evB, Sx.look, slot, ↓lkL, putS, putO, argsL, ↓reduceIte, ofV, of1, lookH, putH, List.length_cons, List.length_nil, List.length_append, List.replicate, List.append, List.cons_append, List.nil_append, List.append_assoc, List.map_cons, List.map_nil, convS, fldA, nthT, idxA, idxS, fldS, oslN, bnd, slS, unS, valI, lenS, lookS, takeC, psB, asRow, csB, Int.toNat_natCast, Int.le_refl, and_self, rdF, Ent.row, ldS, sz, szL, wrF, bldF, plT, bldS, srcS, nilS, nilEq, mapC, binH, binS2, structS, eqL, eqF, binS, arrS, isI, tupS, stor, storL, Value.oneCell', minS, maxS, capS, true_and, and_true, Nat.reduceAdd, Nat.reduceSub, Nat.reduceMul, Nat.reduceLT, Nat.reduceLeDiff, Nat.reduceEqDiff, Nat.reduceBEq, Int.reduceToNat, Int.reduceNeg, Nat.zero_add, Nat.add_zero, Nat.sub_self, Nat.sub_zero, Nat.zero_mul, Nat.mul_one, Nat.zero_le, if_true, if_false, reduceIte, stays, inL, same1, qn, ldN, convN, lenN, List.mem_cons, List.not_mem_nil, Option.map_some, Option.map_none, cond_true, cond_false, Sx.imp_true, Sx.imp_false, implies_true, Int.reduceEq, Int.reduceNe, Int.reduceLE, Int.reduceLT, decide_true, decide_false, List.zipIdx_cons, List.zipIdx_nil, or_false, false_or, forall_eq_or_imp, forall_eq, ne_eq, reduceCtorEq, not_false_eq_true, Bool.false_eq_true, Bool.true_eq_false, Bool.not_true, Bool.not_false, notInt, numB, tabB, Array.reduceGetElem?, upG, up, nth, lay, rcB, rnm, rnmL, wrB, pcB, res15, pl15, Option.isNone, g5, a2, hr1, sl_eq]
                  repeat (refine ⟨by omega, ?_⟩)
                  refine codeP_loop (pl := pl15) tabOk follows_mixed (by kernel_rfl) (fun z st => ∃ (jj : Nat) (j : Nat → Value), jj + z = Y.length ∧ st = ⟨⟨113, [(0, .int .i64 (m + 1)), (9, .int .i64 N), (13, .osl r2 0 0 1 Y.length), (14, .int .i64 ((prs X Y i + occ (X.getD i 0) Y jj) : Nat)), (16, .int .i64 (X.getD i 0)), (82, .osl r1 0 0 1 X.length), (83, .int .i64 (X.length : Nat)), (84, .int .i64 (i : Nat)), (88, .osl r2 0 0 1 Y.length), (89, .int .i64 (Y.length : Nat)), (90, .int .i64 (jj : Nat))], j⟩, H2, []⟩) ?_ ?_
                  · refine into_keep [(0, .int .i64 (m + 1)), (9, .int .i64 N), (13, .osl r2 0 0 1 Y.length), (14, .int .i64 ((prs X Y i + occ (X.getD i 0) Y 0) : Nat)), (16, .int .i64 (X.getD i 0)), (82, .osl r1 0 0 1 X.length), (83, .int .i64 (X.length : Nat)), (84, .int .i64 (i : Nat)), (88, .osl r2 0 0 1 Y.length), (89, .int .i64 (Y.length : Nat)), (90, .int .i64 (0 : Nat))] (by simp [sameT, slot, lkL, occ]) fun j => ⟨Y.length, 0, j, by omega, rfl⟩
                  · rintro z2 st ⟨jj, j2, hj, rfl⟩
                    by_cases hjx : jj < Y.length
                    · have g6 : decide ((jj : Int) < (Y.length : Nat)) = true := decide_eq_true (by omega)
                      have a3 : IntKind.i64.wrap ((jj : Int) + 1) = ((jj + 1 : Nat) : Int) := by rw [wrap64 (by omega) (by omega)]; omega
                      have ho := occ_succ (X.getD i 0) Y hjx
                      have hol := occ_le (X.getD i 0) Y jj
                      cases ge : (X.getD i 0 == Y.getD jj 0) with
                      | true =>
                        rw [ge, if_pos rfl] at ho
                        have a4 : IntKind.i64.wrap (((prs X Y i + occ (X.getD i 0) Y jj : Nat) : Int) + 1) = ((prs X Y i + occ (X.getD i 0) Y (jj + 1) : Nat) : Int) := by rw [wrap64 (by omega) (by omega)]; omega
                        simp -implicitDefEqProofs (maxSteps := 1000000) (disch := omega) only [↓vcB, ↓gd, ↓opP, ↓qv, ↓ef, ↓bslS, ↓stS, ↓mkS, ↓rangeS, ↓nextS, ↓entryS, ↓delS, ↓mupS, ↓appS, ↓s2bS, ↓resS, evB, Sx.look, slot, ↓lkL, putS, putO, argsL, ↓reduceIte, ofV, of1, lookH, putH, List.length_cons, List.length_nil, List.length_append, List.replicate, List.append, List.cons_append, List.nil_append, List.append_assoc, List.map_cons, List.map_nil, convS, fldA, nthT, idxA, idxS, fldS, oslN, bnd, slS, unS, valI, lenS, lookS, takeC, psB, asRow, csB, Int.toNat_natCast, Int.le_refl, and_self, rdF, Ent.row, ldS, sz, szL, wrF, bldF, plT, bldS, srcS, nilS, nilEq, mapC, binH, binS2, structS, eqL, eqF, binS, arrS, isI, tupS, stor, storL, Value.oneCell', minS, maxS, capS, true_and, and_true, Nat.reduceAdd, Nat.reduceSub, Nat.reduceMul, Nat.reduceLT, Nat.reduceLeDiff, Nat.reduceEqDiff, Nat.reduceBEq, Int.reduceToNat, Int.reduceNeg, Nat.zero_add, Nat.add_zero, Nat.sub_self, Nat.sub_zero, Nat.zero_mul, Nat.mul_one, Nat.zero_le, if_true, if_false, reduceIte, stays, inL, same1, qn, ldN, convN, lenN, List.mem_cons, List.not_mem_nil, Option.map_some, Option.map_none, cond_true, cond_false, Sx.imp_true, Sx.imp_false, implies_true, Int.reduceEq, Int.reduceNe, Int.reduceLE, Int.reduceLT, decide_true, decide_false, List.zipIdx_cons, List.zipIdx_nil, or_false, false_or, forall_eq_or_imp, forall_eq, ne_eq, reduceCtorEq, not_false_eq_true, Bool.false_eq_true, Bool.true_eq_false, Bool.not_true, Bool.not_false, notInt, numB, tabB, Array.reduceGetElem?, upG, up, nth, lay, rcB, rnm, rnmL, wrB, pcB, res15, pl15, Option.isNone, g6, a3, a4, ge, hr2, sl_eq]
                        repeat (refine ⟨by omega, ?_⟩)
                        refine into_keep [(0, .int .i64 (m + 1)), (9, .int .i64 N), (13, .osl r2 0 0 1 Y.length), (14, .int .i64 ((prs X Y i + occ (X.getD i 0) Y (jj + 1)) : Nat)), (16, .int .i64 (X.getD i 0)), (82, .osl r1 0 0 1 X.length), (83, .int .i64 (X.length : Nat)), (84, .int .i64 (i : Nat)), (88, .osl r2 0 0 1 Y.length), (89, .int .i64 (Y.length : Nat)), (90, .int .i64 ((jj + 1) : Nat))] (by simp [sameT, slot, lkL]) fun j => ⟨z2 - 1, by omega, jj + 1, j, by omega, rfl⟩
                      | false =>
                        rw [ge, if_neg Bool.false_ne_true] at ho
                        simp -implicitDefEqProofs (maxSteps := 1000000) (disch := omega) only [↓vcB, ↓gd, ↓opP, ↓qv, ↓ef, ↓bslS, ↓stS, ↓mkS, ↓rangeS, ↓nextS, ↓entryS, ↓delS, ↓mupS, ↓appS, ↓s2bS, ↓resS, evB, Sx.look, slot, ↓lkL, putS, putO, argsL, ↓reduceIte, ofV, of1, lookH, putH, List.length_cons, List.length_nil, List.length_append, List.replicate, List.append, List.cons_append, List.nil_append, List.append_assoc, List.map_cons, List.map_nil, convS, fldA, nthT, idxA, idxS, fldS, oslN, bnd, slS, unS, valI, lenS, lookS, takeC, psB, asRow, csB, Int.toNat_natCast, Int.le_refl, and_self, rdF, Ent.row, ldS, sz, szL, wrF, bldF, plT, bldS, srcS, nilS, nilEq, mapC, binH, binS2, structS, eqL, eqF, binS, arrS, isI, tupS, stor, storL, Value.oneCell', minS, maxS, capS, true_and, and_true, Nat.reduceAdd, Nat.reduceSub, Nat.reduceMul, Nat.reduceLT, Nat.reduceLeDiff, Nat.reduceEqDiff, Nat.reduceBEq, Int.reduceToNat, Int.reduceNeg, Nat.zero_add, Nat.add_zero, Nat.sub_self, Nat.sub_zero, Nat.zero_mul, Nat.mul_one, Nat.zero_le, if_true, if_false, reduceIte, stays, inL, same1, qn, ldN, convN, lenN, List.mem_cons, List.not_mem_nil, Option.map_some, Option.map_none, cond_true, cond_false, Sx.imp_true, Sx.imp_false, implies_true, Int.reduceEq, Int.reduceNe, Int.reduceLE, Int.reduceLT, decide_true, decide_false, List.zipIdx_cons, List.zipIdx_nil, or_false, false_or, forall_eq_or_imp, forall_eq, ne_eq, reduceCtorEq, not_false_eq_true, Bool.false_eq_true, Bool.true_eq_false, Bool.not_true, Bool.not_false, notInt, numB, tabB, Array.reduceGetElem?, upG, up, nth, lay, rcB, rnm, rnmL, wrB, pcB, res15, pl15, Option.isNone, g6, a3, ge, hr2, sl_eq]
                        repeat (refine ⟨by omega, ?_⟩)
                        refine into_keep [(0, .int .i64 (m + 1)), (9, .int .i64 N), (13, .osl r2 0 0 1 Y.length), (14, .int .i64 ((prs X Y i + occ (X.getD i 0) Y jj) : Nat)), (16, .int .i64 (X.getD i 0)), (82, .osl r1 0 0 1 X.length), (83, .int .i64 (X.length : Nat)), (84, .int .i64 (i : Nat)), (88, .osl r2 0 0 1 Y.length), (89, .int .i64 (Y.length : Nat)), (90, .int .i64 ((jj + 1) : Nat))] (by simp [sameT, slot, lkL]) fun j => ⟨z2 - 1, by omega, jj + 1, j, by omega, by rw [ho]; rfl⟩
                    · have g6 : decide ((jj : Int) < (Y.length : Nat)) = false := decide_eq_false (by omega)
                      obtain rfl : jj = Y.length := by omega
                      simp -implicitDefEqProofs (maxSteps := 1000000) (disch := omega) only [↓vcB, ↓gd, ↓opP, ↓qv, ↓ef, ↓bslS, ↓stS, ↓mkS, ↓rangeS, ↓nextS, ↓entryS, ↓delS, ↓mupS, ↓appS, ↓s2bS, ↓resS, evB, Sx.look, slot, ↓lkL, putS, putO, argsL, ↓reduceIte, ofV, of1, lookH, putH, List.length_cons, List.length_nil, List.length_append, List.replicate, List.append, List.cons_append, List.nil_append, List.append_assoc, List.map_cons, List.map_nil, convS, fldA, nthT, idxA, idxS, fldS, oslN, bnd, slS, unS, valI, lenS, lookS, takeC, psB, asRow, csB, Int.toNat_natCast, Int.le_refl, and_self, rdF, Ent.row, ldS, sz, szL, wrF, bldF, plT, bldS, srcS, nilS, nilEq, mapC, binH, binS2, structS, eqL, eqF, binS, arrS, isI, tupS, stor, storL, Value.oneCell', minS, maxS, capS, true_and, and_true, Nat.reduceAdd, Nat.reduceSub, Nat.reduceMul, Nat.reduceLT, Nat.reduceLeDiff, Nat.reduceEqDiff, Nat.reduceBEq, Int.reduceToNat, Int.reduceNeg, Nat.zero_add, Nat.add_zero, Nat.sub_self, Nat.sub_zero, Nat.zero_mul, Nat.mul_one, Nat.zero_le, if_true, if_false, reduceIte, stays, inL, same1, qn, ldN, convN, lenN, List.mem_cons, List.not_mem_nil, Option.map_some, Option.map_none, cond_true, cond_false, Sx.imp_true, Sx.imp_false, implies_true, Int.reduceEq, Int.reduceNe, Int.reduceLE, Int.reduceLT, decide_true, decide_false, List.zipIdx_cons, List.zipIdx_nil, or_false, false_or, forall_eq_or_imp, forall_eq, ne_eq, reduceCtorEq, not_false_eq_true, Bool.false_eq_true, Bool.true_eq_false, Bool.not_true, Bool.not_false, notInt, numB, tabB, Array.reduceGetElem?, upG, up, nth, lay, rcB, rnm, rnmL, wrB, pcB, res15, pl15, Option.isNone, g6, a2, sl_eq]
                      repeat (refine ⟨by omega, ?_⟩)
                      refine into_keep [(0, .int .i64 (m + 1)), (9, .int .i64 N), (13, .osl r2 0 0 1 Y.length), (14, .int .i64 ((prs X Y (i + 1)) : Nat)), (82, .osl r1 0 0 1 X.length), (83, .int .i64 (X.length : Nat)), (84, .int .i64 ((i + 1) : Nat))] (by simp [sameT, slot, lkL, prs]) fun j => ⟨z - 1, by omega, i + 1, j, by omega, rfl⟩
                · have g5 : decide ((i : Int) < (X.length : Nat)) = false := decide_eq_false (by omega)
                  obtain rfl : i = X.length := by omega
                  simp -implicitDefEqProofs (maxSteps := 1000000) (disch := omega) only [↓vcB, ↓gd, ↓opP, ↓qv, ↓ef, ↓bslS, ↓stS, ↓mkS, ↓rangeS, ↓nextS, ↓entryS, ↓delS, ↓mupS, ↓appS, ↓s2bS, ↓resS, evB, Sx.look, slot, ↓lkL, putS, putO, argsL, ↓reduceIte, ofV, of1, lookH, putH, List.length_cons, List.length_nil, List.length_append, List.replicate, List.append, List.cons_append, List.nil_append, List.append_assoc, List.map_cons, List.map_nil, convS, fldA, nthT, idxA, idxS, fldS, oslN, bnd, slS, unS, valI, lenS, lookS, takeC, psB, asRow, csB, Int.toNat_natCast, Int.le_refl, and_self, rdF, Ent.row, ldS, sz, szL, wrF, bldF, plT, bldS, srcS, nilS, nilEq, mapC, binH, binS2, structS, eqL, eqF, binS, arrS, isI, tupS, stor, storL, Value.oneCell', minS, maxS, capS, true_and, and_true, Nat.reduceAdd, Nat.reduceSub, Nat.reduceMul, Nat.reduceLT, Nat.reduceLeDiff, Nat.reduceEqDiff, Nat.reduceBEq, Int.reduceToNat, Int.reduceNeg, Nat.zero_add, Nat.add_zero, Nat.sub_self, Nat.sub_zero, Nat.zero_mul, Nat.mul_one, Nat.zero_le, if_true, if_false, reduceIte, stays, inL, same1, qn, ldN, convN, lenN, List.mem_cons, List.not_mem_nil, Option.map_some, Option.map_none, cond_true, cond_false, Sx.imp_true, Sx.imp_false, implies_true, Int.reduceEq, Int.reduceNe, Int.reduceLE, Int.reduceLT, decide_true, decide_false, List.zipIdx_cons, List.zipIdx_nil, or_false, false_or, forall_eq_or_imp, forall_eq, ne_eq, reduceCtorEq, not_false_eq_true, Bool.false_eq_true, Bool.true_eq_false, Bool.not_true, Bool.not_false, notInt, numB, tabB, Array.reduceGetElem?, upG, up, nth, lay, rcB, rnm, rnmL, wrB, pcB, res15, pl15, Option.isNone, g5, sl_eq]
                  repeat (refine ⟨by omega, ?_⟩)
                  refine c23 N ⟨by omega, by omega⟩ _ _ ?_
                  have g7 : decide (((prs X Y X.length : Nat) : Int) ≥ qW N) = true := decide_eq_true (by omega)
                  have g8 : decide (((prs X Y X.length : Nat) : Int) > m + 1) = true := decide_eq_true (by omega)
                  simp -implicitDefEqProofs (maxSteps := 1000000) (disch := omega) only [↓vcB, ↓gd, ↓opP, ↓qv, ↓ef, ↓bslS, ↓stS, ↓mkS, ↓rangeS, ↓nextS, ↓entryS, ↓delS, ↓mupS, ↓appS, ↓s2bS, ↓resS, evB, Sx.look, slot, ↓lkL, putS, putO, argsL, ↓reduceIte, ofV, of1, lookH, putH, List.length_cons, List.length_nil, List.length_append, List.replicate, List.append, List.cons_append, List.nil_append, List.append_assoc, List.map_cons, List.map_nil, convS, fldA, nthT, idxA, idxS, fldS, oslN, bnd, slS, unS, valI, lenS, lookS, takeC, psB, asRow, csB, Int.toNat_natCast, Int.le_refl, and_self, rdF, Ent.row, ldS, sz, szL, wrF, bldF, plT, bldS, srcS, nilS, nilEq, mapC, binH, binS2, structS, eqL, eqF, binS, arrS, isI, tupS, stor, storL, Value.oneCell', minS, maxS, capS, true_and, and_true, Nat.reduceAdd, Nat.reduceSub, Nat.reduceMul, Nat.reduceLT, Nat.reduceLeDiff, Nat.reduceEqDiff, Nat.reduceBEq, Int.reduceToNat, Int.reduceNeg, Nat.zero_add, Nat.add_zero, Nat.sub_self, Nat.sub_zero, Nat.zero_mul, Nat.mul_one, Nat.zero_le, if_true, if_false, reduceIte, stays, inL, same1, qn, ldN, convN, lenN, List.mem_cons, List.not_mem_nil, Option.map_some, Option.map_none, cond_true, cond_false, Sx.imp_true, Sx.imp_false, implies_true, Int.reduceEq, Int.reduceNe, Int.reduceLE, Int.reduceLT, decide_true, decide_false, List.zipIdx_cons, List.zipIdx_nil, or_false, false_or, forall_eq_or_imp, forall_eq, ne_eq, reduceCtorEq, not_false_eq_true, Bool.false_eq_true, Bool.true_eq_false, Bool.not_true, Bool.not_false, notInt, numB, tabB, Array.reduceGetElem?, upG, up, nth, lay, rcB, rnm, rnmL, wrB, pcB, res15, pl15, Option.isNone, g7, g8, sl_eq]
                  repeat (refine ⟨by omega, ?_⟩)
                  refine c25 _ _ ?_
                  simp -implicitDefEqProofs (maxSteps := 1000000) (disch := omega) only [↓vcB, ↓gd, ↓opP, ↓qv, ↓ef, ↓bslS, ↓stS, ↓mkS, ↓rangeS, ↓nextS, ↓entryS, ↓delS, ↓mupS, ↓appS, ↓s2bS, ↓resS, evB, Sx.look, slot, ↓lkL, putS, putO, argsL, ↓reduceIte, ofV, of1, lookH, putH, List.length_cons, List.length_nil, List.length_append, List.replicate, List.append, List.cons_append, List.nil_append, List.append_assoc, List.map_cons, List.map_nil, convS, fldA, nthT, idxA, idxS, fldS, oslN, bnd, slS, unS, valI, lenS, lookS, takeC, psB, asRow, csB, Int.toNat_natCast, Int.le_refl, and_self, rdF, Ent.row, ldS, sz, szL, wrF, bldF, plT, bldS, srcS, nilS, nilEq, mapC, binH, binS2, structS, eqL, eqF, binS, arrS, isI, tupS, stor, storL, Value.oneCell', minS, maxS, capS, true_and, and_true, Nat.reduceAdd, Nat.reduceSub, Nat.reduceMul, Nat.reduceLT, Nat.reduceLeDiff, Nat.reduceEqDiff, Nat.reduceBEq, Int.reduceToNat, Int.reduceNeg, Nat.zero_add, Nat.add_zero, Nat.sub_self, Nat.sub_zero, Nat.zero_mul, Nat.mul_one, Nat.zero_le, if_true, if_false, reduceIte, stays, inL, same1, qn, ldN, convN, lenN, List.mem_cons, List.not_mem_nil, Option.map_some, Option.map_none, cond_true, cond_false, Sx.imp_true, Sx.imp_false, implies_true, Int.reduceEq, Int.reduceNe, Int.reduceLE, Int.reduceLT, decide_true, decide_false, List.zipIdx_cons, List.zipIdx_nil, or_false, false_or, forall_eq_or_imp, forall_eq, ne_eq, reduceCtorEq, not_false_eq_true, Bool.false_eq_true, Bool.true_eq_false, Bool.not_true, Bool.not_false, notInt, numB, tabB, Array.reduceGetElem?, upG, up, nth, lay, rcB, rnm, rnmL, wrB, pcB, res15, pl15, Option.isNone, g7, g8, sl_eq]
                  repeat (refine ⟨by omega, ?_⟩)
                  exact intoR_refl hlen (hK _)
      · have g1 : decide ((k : Int) < q) = false := decide_eq_false (by omega)
        simp -implicitDefEqProofs (maxSteps := 1000000) (disch := omega) only [↓vcB, ↓gd, ↓opP, ↓qv, ↓ef, ↓bslS, ↓stS, ↓mkS, ↓rangeS, ↓nextS, ↓entryS, ↓delS, ↓mupS, ↓appS, ↓s2bS, ↓resS, evB, Sx.look, slot, ↓lkL, putS, putO, argsL, ↓reduceIte, ofV, of1, lookH, putH, List.length_cons, List.length_nil, List.length_append, List.replicate, List.append, List.cons_append, List.nil_append, List.append_assoc, List.map_cons, List.map_nil, convS, fldA, nthT, idxA, idxS, fldS, oslN, bnd, slS, unS, valI, lenS, lookS, takeC, psB, asRow, csB, Int.toNat_natCast, Int.le_refl, and_self, rdF, Ent.row, ldS, sz, szL, wrF, bldF, plT, bldS, srcS, nilS, nilEq, mapC, binH, binS2, structS, eqL, eqF, binS, arrS, isI, tupS, stor, storL, Value.oneCell', minS, maxS, capS, true_and, and_true, Nat.reduceAdd, Nat.reduceSub, Nat.reduceMul, Nat.reduceLT, Nat.reduceLeDiff, Nat.reduceEqDiff, Nat.reduceBEq, Int.reduceToNat, Int.reduceNeg, Nat.zero_add, Nat.add_zero, Nat.sub_self, Nat.sub_zero, Nat.zero_mul, Nat.mul_one, Nat.zero_le, if_true, if_false, reduceIte, stays, inL, same1, qn, ldN, convN, lenN, List.mem_cons, List.not_mem_nil, Option.map_some, Option.map_none, cond_true, cond_false, Sx.imp_true, Sx.imp_false, implies_true, Int.reduceEq, Int.reduceNe, Int.reduceLE, Int.reduceLT, decide_true, decide_false, List.zipIdx_cons, List.zipIdx_nil, or_false, false_or, forall_eq_or_imp, forall_eq, ne_eq, reduceCtorEq, not_false_eq_true, Bool.false_eq_true, Bool.true_eq_false, Bool.not_true, Bool.not_false, notInt, numB, tabB, Array.reduceGetElem?, upG, up, nth, lay, rcB, rnm, rnmL, wrB, pcB, res15, pl15, Option.isNone, g1, h0, sl_eq]
        repeat (refine ⟨by omega, ?_⟩)
        refine c71W x hv (by omega) _ fun X l1 r1 hX hr1 hr1' => ?_
        simp -implicitDefEqProofs (maxSteps := 1000000) (disch := omega) only [↓vcB, ↓gd, ↓opP, ↓qv, ↓ef, ↓bslS, ↓stS, ↓mkS, ↓rangeS, ↓nextS, ↓entryS, ↓delS, ↓mupS, ↓appS, ↓s2bS, ↓resS, evB, Sx.look, slot, ↓lkL, putS, putO, argsL, ↓reduceIte, ofV, of1, lookH, putH, List.length_cons, List.length_nil, List.length_append, List.replicate, List.append, List.cons_append, List.nil_append, List.append_assoc, List.map_cons, List.map_nil, convS, fldA, nthT, idxA, idxS, fldS, oslN, bnd, slS, unS, valI, lenS, lookS, takeC, psB, asRow, csB, Int.toNat_natCast, Int.le_refl, and_self, rdF, Ent.row, ldS, sz, szL, wrF, bldF, plT, bldS, srcS, nilS, nilEq, mapC, binH, binS2, structS, eqL, eqF, binS, arrS, isI, tupS, stor, storL, Value.oneCell', minS, maxS, capS, true_and, and_true, Nat.reduceAdd, Nat.reduceSub, Nat.reduceMul, Nat.reduceLT, Nat.reduceLeDiff, Nat.reduceEqDiff, Nat.reduceBEq, Int.reduceToNat, Int.reduceNeg, Nat.zero_add, Nat.add_zero, Nat.sub_self, Nat.sub_zero, Nat.zero_mul, Nat.mul_one, Nat.zero_le, if_true, if_false, reduceIte, stays, inL, same1, qn, ldN, convN, lenN, List.mem_cons, List.not_mem_nil, Option.map_some, Option.map_none, cond_true, cond_false, Sx.imp_true, Sx.imp_false, implies_true, Int.reduceEq, Int.reduceNe, Int.reduceLE, Int.reduceLT, decide_true, decide_false, List.zipIdx_cons, List.zipIdx_nil, or_false, false_or, forall_eq_or_imp, forall_eq, ne_eq, reduceCtorEq, not_false_eq_true, Bool.false_eq_true, Bool.true_eq_false, Bool.not_true, Bool.not_false, notInt, numB, tabB, Array.reduceGetElem?, upG, up, nth, lay, rcB, rnm, rnmL, wrB, pcB, res15, pl15, Option.isNone, g1, h0, sl_eq]
        repeat (refine ⟨by omega, ?_⟩)
        refine c71W y (hv.app l1) (by omega) _ fun Y l2 r2 hY hr2 hr2' => ?_
        obtain ⟨H2, hH2⟩ : ∃ H2, H2 = H ++ l1 ++ l2 := ⟨_, rfl⟩
        rw [← hH2]
        simp -implicitDefEqProofs (maxSteps := 1000000) (disch := omega) only [↓vcB, ↓gd, ↓opP, ↓qv, ↓ef, ↓bslS, ↓stS, ↓mkS, ↓rangeS, ↓nextS, ↓entryS, ↓delS, ↓mupS, ↓appS, ↓s2bS, ↓resS, evB, Sx.look, slot, ↓lkL, putS, putO, argsL, ↓reduceIte, ofV, of1, lookH, putH, List.length_cons, List.length_nil, List.length_append, List.replicate, List.append, List.cons_append, List.nil_append, List.append_assoc, List.map_cons, List.map_nil, convS, fldA, nthT, idxA, idxS, fldS, oslN, bnd, slS, unS, valI, lenS, lookS, takeC, psB, asRow, csB, Int.toNat_natCast, Int.le_refl, and_self, rdF, Ent.row, ldS, sz, szL, wrF, bldF, plT, bldS, srcS, nilS, nilEq, mapC, binH, binS2, structS, eqL, eqF, binS, arrS, isI, tupS, stor, storL, Value.oneCell', minS, maxS, capS, true_and, and_true, Nat.reduceAdd, Nat.reduceSub, Nat.reduceMul, Nat.reduceLT, Nat.reduceLeDiff, Nat.reduceEqDiff, Nat.reduceBEq, Int.reduceToNat, Int.reduceNeg, Nat.zero_add, Nat.add_zero, Nat.sub_self, Nat.sub_zero, Nat.zero_mul, Nat.mul_one, Nat.zero_le, if_true, if_false, reduceIte, stays, inL, same1, qn, ldN, convN, lenN, List.mem_cons, List.not_mem_nil, Option.map_some, Option.map_none, cond_true, cond_false, Sx.imp_true, Sx.imp_false, implies_true, Int.reduceEq, Int.reduceNe, Int.reduceLE, Int.reduceLT, decide_true, decide_false, List.zipIdx_cons, List.zipIdx_nil, or_false, false_or, forall_eq_or_imp, forall_eq, ne_eq, reduceCtorEq, not_false_eq_true, Bool.false_eq_true, Bool.true_eq_false, Bool.not_true, Bool.not_false, notInt, numB, tabB, Array.reduceGetElem?, upG, up, nth, lay, rcB, rnm, rnmL, wrB, pcB, res15, pl15, Option.isNone, g1, h0, sl_eq]
        repeat (refine ⟨by omega, ?_⟩)
        have hv2 : VotesW false H2 1 N T W := by rw [hH2]; exact (hv.app l1).app l2
        have hr1 : lookH H2 r1 = .row true X.length 1 fun i => .int .i64 (X.getD i 0) := by rw [hH2, lookH_at _ (lookH_lt hr1' (by simp))]; exact hr1'
        have hr2 : lookH H2 r2 = .row true Y.length 1 fun i => .int .i64 (Y.getD i 0) := by rw [hH2]; exact hr2'
        have hlen : 1 ≤ H2.length := Nat.lt_of_le_of_lt (Nat.zero_le _) (lookH_lt hr1 (by simp))
        cases gxy : (x == y) with
        | true =>
          simp -implicitDefEqProofs (maxSteps := 1000000) (disch := omega) only [↓vcB, ↓gd, ↓opP, ↓qv, ↓ef, ↓bslS, ↓stS, ↓mkS, ↓rangeS, ↓nextS, ↓entryS, ↓delS, ↓mupS, ↓appS, ↓s2bS, ↓resS, evB, Sx.look, slot, ↓lkL, putS, putO, argsL, ↓reduceIte, ofV, of1, lookH, putH, List.length_cons, List.length_nil, List.length_append, List.replicate, List.append, List.cons_append, List.nil_append, List.append_assoc, List.map_cons, List.map_nil, convS, fldA, nthT, idxA, idxS, fldS, oslN, bnd, slS, unS, valI, lenS, lookS, takeC, psB, asRow, csB, Int.toNat_natCast, Int.le_refl, and_self, rdF, Ent.row, ldS, sz, szL, wrF, bldF, plT, bldS, srcS, nilS, nilEq, mapC, binH, binS2, structS, eqL, eqF, binS, arrS, isI, tupS, stor, storL, Value.oneCell', minS, maxS, capS, true_and, and_true, Nat.reduceAdd, Nat.reduceSub, Nat.reduceMul, Nat.reduceLT, Nat.reduceLeDiff, Nat.reduceEqDiff, Nat.reduceBEq, Int.reduceToNat, Int.reduceNeg, Nat.zero_add, Nat.add_zero, Nat.sub_self, Nat.sub_zero, Nat.zero_mul, Nat.mul_one, Nat.zero_le, if_true, if_false, reduceIte, stays, inL, same1, qn, ldN, convN, lenN, List.mem_cons, List.not_mem_nil, Option.map_some, Option.map_none, cond_true, cond_false, Sx.imp_true, Sx.imp_false, implies_true, Int.reduceEq, Int.reduceNe, Int.reduceLE, Int.reduceLT, decide_true, decide_false, List.zipIdx_cons, List.zipIdx_nil, or_false, false_or, forall_eq_or_imp, forall_eq, ne_eq, reduceCtorEq, not_false_eq_true, Bool.false_eq_true, Bool.true_eq_false, Bool.not_true, Bool.not_false, notInt, numB, tabB, Array.reduceGetElem?, upG, up, nth, lay, rcB, rnm, rnmL, wrB, pcB, res15, pl15, Option.isNone, g1, h0, gxy, sl_eq]
          repeat (refine ⟨by omega, ?_⟩)
          refine c25 _ _ ?_
          simp -implicitDefEqProofs (maxSteps := 1000000) (disch := omega) only [↓vcB, ↓gd, ↓opP, ↓qv, ↓ef, ↓bslS, ↓stS, ↓mkS, ↓rangeS, ↓nextS, ↓entryS, ↓delS, ↓mupS, ↓appS, ↓s2bS, ↓resS, evB, Sx.look, slot, ↓lkL, putS, putO, argsL, ↓reduceIte, ofV, of1, lookH, putH, List.length_cons, List.length_nil, List.length_append, List.replicate, List.append, List.cons_append, List.nil_append, List.append_assoc, List.map_cons, List.map_nil, convS, fldA, nthT, idxA, idxS, fldS, oslN, bnd, slS, unS, valI, lenS, lookS, takeC, psB, asRow, csB, Int.toNat_natCast, Int.le_refl, and_self, rdF, Ent.row, ldS, sz, szL, wrF, bldF, plT, bldS, srcS, nilS, nilEq, mapC, binH, binS2, structS, eqL, eqF, binS, arrS, isI, tupS, stor, storL, Value.oneCell', minS, maxS, capS, true_and, and_true, Nat.reduceAdd, Nat.reduceSub, Nat.reduceMul, Nat.reduceLT, Nat.reduceLeDiff, Nat.reduceEqDiff, Nat.reduceBEq, Int.reduceToNat, Int.reduceNeg, Nat.zero_add, Nat.add_zero, Nat.sub_self, Nat.sub_zero, Nat.zero_mul, Nat.mul_one, Nat.zero_le, if_true, if_false, reduceIte, stays, inL, same1, qn, ldN, convN, lenN, List.mem_cons, List.not_mem_nil, Option.map_some, Option.map_none, cond_true, cond_false, Sx.imp_true, Sx.imp_false, implies_true, Int.reduceEq, Int.reduceNe, Int.reduceLE, Int.reduceLT, decide_true, decide_false, List.zipIdx_cons, List.zipIdx_nil, or_false, false_or, forall_eq_or_imp, forall_eq, ne_eq, reduceCtorEq, not_false_eq_true, Bool.false_eq_true, Bool.true_eq_false, Bool.not_true, Bool.not_false, notInt, numB, tabB, Array.reduceGetElem?, upG, up, nth, lay, rcB, rnm, rnmL, wrB, pcB, res15, pl15, Option.isNone, g1, h0, gxy, sl_eq]
          repeat (refine ⟨by omega, ?_⟩)
          exact intoR_refl hlen (hK _)
        | false =>
          simp -implicitDefEqProofs (maxSteps := 1000000) (disch := omega) only [↓vcB, ↓gd, ↓opP, ↓qv, ↓ef, ↓bslS, ↓stS, ↓mkS, ↓rangeS, ↓nextS, ↓entryS, ↓delS, ↓mupS, ↓appS, ↓s2bS, ↓resS, evB, Sx.look, slot, ↓lkL, putS, putO, argsL, ↓reduceIte, ofV, of1, lookH, putH, List.length_cons, List.length_nil, List.length_append, List.replicate, List.append, List.cons_append, List.nil_append, List.append_assoc, List.map_cons, List.map_nil, convS, fldA, nthT, idxA, idxS, fldS, oslN, bnd, slS, unS, valI, lenS, lookS, takeC, psB, asRow, csB, Int.toNat_natCast, Int.le_refl, and_self, rdF, Ent.row, ldS, sz, szL, wrF, bldF, plT, bldS, srcS, nilS, nilEq, mapC, binH, binS2, structS, eqL, eqF, binS, arrS, isI, tupS, stor, storL, Value.oneCell', minS, maxS, capS, true_and, and_true, Nat.reduceAdd, Nat.reduceSub, Nat.reduceMul, Nat.reduceLT, Nat.reduceLeDiff, Nat.reduceEqDiff, Nat.reduceBEq, Int.reduceToNat, Int.reduceNeg, Nat.zero_add, Nat.add_zero, Nat.sub_self, Nat.sub_zero, Nat.zero_mul, Nat.mul_one, Nat.zero_le, if_true, if_false, reduceIte, stays, inL, same1, qn, ldN, convN, lenN, List.mem_cons, List.not_mem_nil, Option.map_some, Option.map_none, cond_true, cond_false, Sx.imp_true, Sx.imp_false, implies_true, Int.reduceEq, Int.reduceNe, Int.reduceLE, Int.reduceLT, decide_true, decide_false, List.zipIdx_cons, List.zipIdx_nil, or_false, false_or, forall_eq_or_imp, forall_eq, ne_eq, reduceCtorEq, not_false_eq_true, Bool.false_eq_true, Bool.true_eq_false, Bool.not_true, Bool.not_false, notInt, numB, tabB, Array.reduceGetElem?, upG, up, nth, lay, rcB, rnm, rnmL, wrB, pcB, res15, pl15, Option.isNone, g1, h0, gxy, sl_eq]
          repeat (refine ⟨by omega, ?_⟩)
          refine c72W x hv2 _ ?_
          simp -implicitDefEqProofs (maxSteps := 1000000) (disch := omega) only [↓vcB, ↓gd, ↓opP, ↓qv, ↓ef, ↓bslS, ↓stS, ↓mkS, ↓rangeS, ↓nextS, ↓entryS, ↓delS, ↓mupS, ↓appS, ↓s2bS, ↓resS, evB, Sx.look, slot, ↓lkL, putS, putO, argsL, ↓reduceIte, ofV, of1, lookH, putH, List.length_cons, List.length_nil, List.length_append, List.replicate, List.append, List.cons_append, List.nil_append, List.append_assoc, List.map_cons, List.map_nil, convS, fldA, nthT, idxA, idxS, fldS, oslN, bnd, slS, unS, valI, lenS, lookS, takeC, psB, asRow, csB, Int.toNat_natCast, Int.le_refl, and_self, rdF, Ent.row, ldS, sz, szL, wrF, bldF, plT, bldS, srcS, nilS, nilEq, mapC, binH, binS2, structS, eqL, eqF, binS, arrS, isI, tupS, stor, storL, Value.oneCell', minS, maxS, capS, true_and, and_true, Nat.reduceAdd, Nat.reduceSub, Nat.reduceMul, Nat.reduceLT, Nat.reduceLeDiff, Nat.reduceEqDiff, Nat.reduceBEq, Int.reduceToNat, Int.reduceNeg, Nat.zero_add, Nat.add_zero, Nat.sub_self, Nat.sub_zero, Nat.zero_mul, Nat.mul_one, Nat.zero_le, if_true, if_false, reduceIte, stays, inL, same1, qn, ldN, convN, lenN, List.mem_cons, List.not_mem_nil, Option.map_some, Option.map_none, cond_true, cond_false, Sx.imp_true, Sx.imp_false, implies_true, Int.reduceEq, Int.reduceNe, Int.reduceLE, Int.reduceLT, decide_true, decide_false, List.zipIdx_cons, List.zipIdx_nil, or_false, false_or, forall_eq_or_imp, forall_eq, ne_eq, reduceCtorEq, not_false_eq_true, Bool.false_eq_true, Bool.true_eq_false, Bool.not_true, Bool.not_false, notInt, numB, tabB, Array.reduceGetElem?, upG, up, nth, lay, rcB, rnm, rnmL, wrB, pcB, res15, pl15, Option.isNone, g1, h0, gxy, sl_eq]
          repeat (refine ⟨by omega, ?_⟩)
          refine c21 N ⟨by omega, by omega⟩ _ _ ?_
          by_cases q1 : ((cnt T x : Nat) : Int) < qS N
          · have g3 : decide (((cnt T x : Nat) : Int) < qS N) = true := decide_eq_true q1
            simp -implicitDefEqProofs (maxSteps := 1000000) (disch := omega) only [↓vcB, ↓gd, ↓opP, ↓qv, ↓ef, ↓bslS, ↓stS, ↓mkS, ↓rangeS, ↓nextS, ↓entryS, ↓delS, ↓mupS, ↓appS, ↓s2bS, ↓resS, evB, Sx.look, slot, ↓lkL, putS, putO, argsL, ↓reduceIte, ofV, of1, lookH, putH, List.length_cons, List.length_nil, List.length_append, List.replicate, List.append, List.cons_append, List.nil_append, List.append_assoc, List.map_cons, List.map_nil, convS, fldA, nthT, idxA, idxS, fldS, oslN, bnd, slS, unS, valI, lenS, lookS, takeC, psB, asRow, csB, Int.toNat_natCast, Int.le_refl, and_self, rdF, Ent.row, ldS, sz, szL, wrF, bldF, plT, bldS, srcS, nilS, nilEq, mapC, binH, binS2, structS, eqL, eqF, binS, arrS, isI, tupS, stor, storL, Value.oneCell', minS, maxS, capS, true_and, and_true, Nat.reduceAdd, Nat.reduceSub, Nat.reduceMul, Nat.reduceLT, Nat.reduceLeDiff, Nat.reduceEqDiff, Nat.reduceBEq, Int.reduceToNat, Int.reduceNeg, Nat.zero_add, Nat.add_zero, Nat.sub_self, Nat.sub_zero, Nat.zero_mul, Nat.mul_one, Nat.zero_le, if_true, if_false, reduceIte, stays, inL, same1, qn, ldN, convN, lenN, List.mem_cons, List.not_mem_nil, Option.map_some, Option.map_none, cond_true, cond_false, Sx.imp_true, Sx.imp_false, implies_true, Int.reduceEq, Int.reduceNe, Int.reduceLE, Int.reduceLT, decide_true, decide_false, List.zipIdx_cons, List.zipIdx_nil, or_false, false_or, forall_eq_or_imp, forall_eq, ne_eq, reduceCtorEq, not_false_eq_true, Bool.false_eq_true, Bool.true_eq_false, Bool.not_true, Bool.not_false, notInt, numB, tabB, Array.reduceGetElem?, upG, up, nth, lay, rcB, rnm, rnmL, wrB, pcB, res15, pl15, Option.isNone, g1, h0, gxy, g3, sl_eq]
            repeat (refine ⟨by omega, ?_⟩)
            refine c25 _ _ ?_
            simp -implicitDefEqProofs (maxSteps := 1000000) (disch := omega) only [↓vcB, ↓gd, ↓opP, ↓qv, ↓ef, ↓bslS, ↓stS, ↓mkS, ↓rangeS, ↓nextS, ↓entryS, ↓delS, ↓mupS, ↓appS, ↓s2bS, ↓resS, evB, Sx.look, slot, ↓lkL, putS, putO, argsL, ↓reduceIte, ofV, of1, lookH, putH, List.length_cons, List.length_nil, List.length_append, List.replicate, List.append, List.cons_append, List.nil_append, List.append_assoc, List.map_cons, List.map_nil, convS, fldA, nthT, idxA, idxS, fldS, oslN, bnd, slS, unS, valI, lenS, lookS, takeC, psB, asRow, csB, Int.toNat_natCast, Int.le_refl, and_self, rdF, Ent.row, ldS, sz, szL, wrF, bldF, plT, bldS, srcS, nilS, nilEq, mapC, binH, binS2, structS, eqL, eqF, binS, arrS, isI, tupS, stor, storL, Value.oneCell', minS, maxS, capS, true_and, and_true, Nat.reduceAdd, Nat.reduceSub, Nat.reduceMul, Nat.reduceLT, Nat.reduceLeDiff, Nat.reduceEqDiff, Nat.reduceBEq, Int.reduceToNat, Int.reduceNeg, Nat.zero_add, Nat.add_zero, Nat.sub_self, Nat.sub_zero, Nat.zero_mul, Nat.mul_one, Nat.zero_le, if_true, if_false, reduceIte, stays, inL, same1, qn, ldN, convN, lenN, List.mem_cons, List.not_mem_nil, Option.map_some, Option.map_none, cond_true, cond_false, Sx.imp_true, Sx.imp_false, implies_true, Int.reduceEq, Int.reduceNe, Int.reduceLE, Int.reduceLT, decide_true, decide_false, List.zipIdx_cons, List.zipIdx_nil, or_false, false_or, forall_eq_or_imp, forall_eq, ne_eq, reduceCtorEq, not_false_eq_true, Bool.false_eq_true, Bool.true_eq_false, Bool.not_true, Bool.not_false, notInt, numB, tabB, Array.reduceGetElem?, upG, up, nth, lay, rcB, rnm, rnmL, wrB, pcB, res15, pl15, Option.isNone, g1, h0, gxy, g3, sl_eq]
            repeat (refine ⟨by omega, ?_⟩)
            exact intoR_refl hlen (hK _)
          · have g3 : decide (((cnt T x : Nat) : Int) < qS N) = false := decide_eq_false q1
            simp -implicitDefEqProofs (maxSteps := 1000000) (disch := omega) only [↓vcB, ↓gd, ↓opP, ↓qv, ↓ef, ↓bslS, ↓stS, ↓mkS, ↓rangeS, ↓nextS, ↓entryS, ↓delS, ↓mupS, ↓appS, ↓s2bS, ↓resS, evB, Sx.look, slot, ↓lkL, putS, putO, argsL, ↓reduceIte, ofV, of1, lookH, putH, List.length_cons, List.length_nil, List.length_append, List.replicate, List.append, List.cons_append, List.nil_append, List.append_assoc, List.map_cons, List.map_nil, convS, fldA, nthT, idxA, idxS, fldS, oslN, bnd, slS, unS, valI, lenS, lookS, takeC, psB, asRow, csB, Int.toNat_natCast, Int.le_refl, and_self, rdF, Ent.row, ldS, sz, szL, wrF, bldF, plT, bldS, srcS, nilS, nilEq, mapC, binH, binS2, structS, eqL, eqF, binS, arrS, isI, tupS, stor, storL, Value.oneCell', minS, maxS, capS, true_and, and_true, Nat.reduceAdd, Nat.reduceSub, Nat.reduceMul, Nat.reduceLT, Nat.reduceLeDiff, Nat.reduceEqDiff, Nat.reduceBEq, Int.reduceToNat, Int.reduceNeg, Nat.zero_add, Nat.add_zero, Nat.sub_self, Nat.sub_zero, Nat.zero_mul, Nat.mul_one, Nat.zero_le, if_true, if_false, reduceIte, stays, inL, same1, qn, ldN, convN, lenN, List.mem_cons, List.not_mem_nil, Option.map_some, Option.map_none, cond_true, cond_false, Sx.imp_true, Sx.imp_false, implies_true, Int.reduceEq, Int.reduceNe, Int.reduceLE, Int.reduceLT, decide_true, decide_false, List.zipIdx_cons, List.zipIdx_nil, or_false, false_or, forall_eq_or_imp, forall_eq, ne_eq, reduceCtorEq, not_false_eq_true, Bool.false_eq_true, Bool.true_eq_false, Bool.not_true, Bool.not_false, notInt, numB, tabB, Array.reduceGetElem?, upG, up, nth, lay, rcB, rnm, rnmL, wrB, pcB, res15, pl15, Option.isNone, g1, h0, gxy, g3, sl_eq]
            repeat (refine ⟨by omega, ?_⟩)
            refine c72W y hv2 _ ?_
            simp -implicitDefEqProofs (maxSteps := 1000000) (disch := omega) only [↓vcB, ↓gd, ↓opP, ↓qv, ↓ef, ↓bslS, ↓stS, ↓mkS, ↓rangeS, ↓nextS, ↓entryS, ↓delS, ↓mupS, ↓appS, ↓s2bS, ↓resS, evB, Sx.look, slot, ↓lkL, putS, putO, argsL, ↓reduceIte, ofV, of1, lookH, putH, List.length_cons, List.length_nil, List.length_append, List.replicate, List.append, List.cons_append, List.nil_append, List.append_assoc, List.map_cons, List.map_nil, convS, fldA, nthT, idxA, idxS, fldS, oslN, bnd, slS, unS, valI, lenS, lookS, takeC, psB, asRow, csB, Int.toNat_natCast, Int.le_refl, and_self, rdF, Ent.row, ldS, sz, szL, wrF, bldF, plT, bldS, srcS, nilS, nilEq, mapC, binH, binS2, structS, eqL, eqF, binS, arrS, isI, tupS, stor, storL, Value.oneCell', minS, maxS, capS, true_and, and_true, Nat.reduceAdd, Nat.reduceSub, Nat.reduceMul, Nat.reduceLT, Nat.reduceLeDiff, Nat.reduceEqDiff, Nat.reduceBEq, Int.reduceToNat, Int.reduceNeg, Nat.zero_add, Nat.add_zero, Nat.sub_self, Nat.sub_zero, Nat.zero_mul, Nat.mul_one, Nat.zero_le, if_true, if_false, reduceIte, stays, inL, same1, qn, ldN, convN, lenN, List.mem_cons, List.not_mem_nil, Option.map_some, Option.map_none, cond_true, cond_false, Sx.imp_true, Sx.imp_false, implies_true, Int.reduceEq, Int.reduceNe, Int.reduceLE, Int.reduceLT, decide_true, decide_false, List.zipIdx_cons, List.zipIdx_nil, or_false, false_or, forall_eq_or_imp, forall_eq, ne_eq, reduceCtorEq, not_false_eq_true, Bool.false_eq_true, Bool.true_eq_false, Bool.not_true, Bool.not_false, notInt, numB, tabB, Array.reduceGetElem?, upG, up, nth, lay, rcB, rnm, rnmL, wrB, pcB, res15, pl15, Option.isNone, g1, h0, gxy, g3, sl_eq]
            repeat (refine ⟨by omega, ?_⟩)
            refine c21 N ⟨by omega, by omega⟩ _ _ ?_
            by_cases q2 : ((cnt T y : Nat) : Int) < qS N
            · have g4 : decide (((cnt T y : Nat) : Int) < qS N) = true := decide_eq_true q2
              simp -implicitDefEqProofs (maxSteps := 1000000) (disch := omega) only [↓vcB, ↓gd, ↓opP, ↓qv, ↓ef, ↓bslS, ↓stS, ↓mkS, ↓rangeS, ↓nextS, ↓entryS, ↓delS, ↓mupS, ↓appS, ↓s2bS, ↓resS, evB, Sx.look, slot, ↓lkL, putS, putO, argsL, ↓reduceIte, ofV, of1, lookH, putH, List.length_cons, List.length_nil, List.length_append, List.replicate, List.append, List.cons_append, List.nil_append, List.append_assoc, List.map_cons, List.map_nil, convS, fldA, nthT, idxA, idxS, fldS, oslN, bnd, slS, unS, valI, lenS, lookS, takeC, psB, asRow, csB, Int.toNat_natCast, Int.le_refl, and_self, rdF, Ent.row, ldS, sz, szL, wrF, bldF, plT, bldS, srcS, nilS, nilEq, mapC, binH, binS2, structS, eqL, eqF, binS, arrS, isI, tupS, stor, storL, Value.oneCell', minS, maxS, capS, true_and, and_true, Nat.reduceAdd, Nat.reduceSub, Nat.reduceMul, Nat.reduceLT, Nat.reduceLeDiff, Nat.reduceEqDiff, Nat.reduceBEq, Int.reduceToNat, Int.reduceNeg, Nat.zero_add, Nat.add_zero, Nat.sub_self, Nat.sub_zero, Nat.zero_mul, Nat.mul_one, Nat.zero_le, if_true, if_false, reduceIte, stays, inL, same1, qn, ldN, convN, lenN, List.mem_cons, List.not_mem_nil, Option.map_some, Option.map_none, cond_true, cond_false, Sx.imp_true, Sx.imp_false, implies_true, Int.reduceEq, Int.reduceNe, Int.reduceLE, Int.reduceLT, decide_true, decide_false, List.zipIdx_cons, List.zipIdx_nil, or_false, false_or, forall_eq_or_imp, forall_eq, ne_eq, reduceCtorEq, not_false_eq_true, Bool.false_eq_true, Bool.true_eq_false, Bool.not_true, Bool.not_false, notInt, numB, tabB, Array.reduceGetElem?, upG, up, nth, lay, rcB, rnm, rnmL, wrB, pcB, res15, pl15, Option.isNone, g1, h0, gxy, g3, g4, sl_eq]
              repeat (refine ⟨by omega, ?_⟩)
              refine c25 _ _ ?_
              simp -implicitDefEqProofs (maxSteps := 1000000) (disch := omega) only [↓vcB, ↓gd, ↓opP, ↓qv, ↓ef, ↓bslS, ↓stS, ↓mkS, ↓rangeS, ↓nextS, ↓entryS, ↓delS, ↓mupS, ↓appS, ↓s2bS, ↓resS, evB, Sx.look, slot, ↓lkL, putS, putO, argsL, ↓reduceIte, ofV, of1, lookH, putH, List.length_cons, List.length_nil, List.length_append, List.replicate, List.append, List.cons_append, List.nil_append, List.append_assoc, List.map_cons, List.map_nil, convS, fldA, nthT, idxA, idxS, fldS, oslN, bnd, slS, unS, valI, lenS, lookS, takeC, psB, asRow, csB, Int.toNat_natCast, Int.le_refl, and_self, rdF, Ent.row, ldS, sz, szL, wrF, bldF, plT, bldS, srcS, nilS, nilEq, mapC, binH, binS2, structS, eqL, eqF, binS, arrS, isI, tupS, stor, storL, Value.oneCell', minS, maxS, capS, true_and, and_true, Nat.reduceAdd, Nat.reduceSub, Nat.reduceMul, Nat.reduceLT, Nat.reduceLeDiff, Nat.reduceEqDiff, Nat.reduceBEq, Int.reduceToNat, Int.reduceNeg, Nat.zero_add, Nat.add_zero, Nat.sub_self, Nat.sub_zero, Nat.zero_mul, Nat.mul_one, Nat.zero_le, if_true, if_false, reduceIte, stays, inL, same1, qn, ldN, convN, lenN, List.mem_cons, List.not_mem_nil, Option.map_some, Option.map_none, cond_true, cond_false, Sx.imp_true, Sx.imp_false, implies_true, Int.reduceEq, Int.reduceNe, Int.reduceLE, Int.reduceLT, decide_true, decide_false, List.zipIdx_cons, List.zipIdx_nil, or_false, false_or, forall_eq_or_imp, forall_eq, ne_eq, reduceCtorEq, not_false_eq_true, Bool.false_eq_true, Bool.true_eq_false, Bool.not_true, Bool.not_false, notInt, numB, tabB, Array.reduceGetElem?, upG, up, nth, lay, rcB, rnm, rnmL, wrB, pcB, res15, pl15, Option.isNone, g1, h0, gxy, g3, g4, sl_eq]
              repeat (refine ⟨by omega, ?_⟩)
              exact intoR_refl hlen (hK _)
            · have g4 : decide (((cnt T y : Nat) : Int) < qS N) = false := decide_eq_false q2
              rw [cnt_vof] at q1 q2
              have lX : X.length = (vof T x).length := by rw [hX, List.length_mergeSort]
              have lY : Y.length = (vof T y).length := by rw [hY, List.length_mergeSort]
              have nX : X.Nodup := by rw [hX]; exact (List.mergeSort_perm _ _).nodup_iff.2 (hv.vofn x)
              have nY : Y.Nodup := by rw [hY]; exact (List.mergeSort_perm _ _).nodup_iff.2 (hv.vofn y)
              have hN0 : (N.toNat : Int) = N := by omega
              have bX : ∀ a ∈ X, 0 ≤ a ∧ a < N.toNat := fun a ha => by rw [hX] at ha; rw [hN0]; exact hx0 a ((List.mergeSort_perm _ _).mem_iff.1 ha)
              have bY : ∀ a ∈ Y, 0 ≤ a ∧ a < N.toNat := fun a ha => by rw [hY] at ha; rw [hN0]; exact hy0 a ((List.mergeSort_perm _ _).mem_iff.1 ha)
              have hmeet := meet_le nX nY bX bY
              have hqF : qF N = m + 1 := by unfold qF; rw [if_neg (by omega), Int.tdiv_eq_ediv_of_nonneg (by omega)]; omega
              have hqS : qS N = 2 * qF N + 1 := by unfold qS; rw [if_neg (by omega)]
              have hqW : qW N = qF N + 1 := by unfold qW; rw [if_neg (by omega)]
              have hp : ∀ i, i ≤ X.length → prs X Y i ≤ i := fun i hi => by rw [prs_eq X nY i hi]; exact Nat.le_trans (List.length_filter_le _ _) (by rw [List.length_take]; omega)
              simp -implicitDefEqProofs (maxSteps := 1000000) (disch := omega) only [↓vcB, ↓gd, ↓opP, ↓qv, ↓ef, ↓bslS, ↓stS, ↓mkS, ↓rangeS, ↓nextS, ↓entryS, ↓delS, ↓mupS, ↓appS, ↓s2bS, ↓resS, evB, Sx.look, slot, ↓lkL, putS, putO, argsL, ↓reduceIte, ofV, of1, lookH, putH, List.length_cons, List.length_nil, List.length_append, List.replicate, List.append, List.cons_append, List.nil_append, List.append_assoc, List.map_cons, List.map_nil, convS, fldA, nthT, idxA, idxS, fldS, oslN, bnd, slS, unS, valI, lenS, lookS, takeC, psB, asRow, csB, Int.toNat_natCast, Int.le_refl, and_self, rdF, Ent.row, ldS, sz, szL, wrF, bldF, plT, bldS, srcS, nilS, nilEq, mapC, binH, binS2, structS, eqL, eqF, binS, arrS, isI, tupS, stor, storL, Value.oneCell', minS, maxS, capS, true_and, and_true, Nat.reduceAdd, Nat.reduceSub, Nat.reduceMul, Nat.reduceLT, Nat.reduceLeDiff, Nat.reduceEqDiff, Nat.reduceBEq, Int.reduceToNat, Int.reduceNeg, Nat.zero_add, Nat.add_zero, Nat.sub_self, Nat.sub_zero, Nat.zero_mul, Nat.mul_one, Nat.zero_le, if_true, if_false, reduceIte, stays, inL, same1, qn, ldN, convN, lenN, List.mem_cons, List.not_mem_nil, Option.map_some, Option.map_none, cond_true, cond_false, Sx.imp_true, Sx.imp_false, implies_true, Int.reduceEq, Int.reduceNe, Int.reduceLE, Int.reduceLT, decide_true, decide_false, List.zipIdx_cons, List.zipIdx_nil, or_false, false_or, forall_eq_or_imp, forall_eq, ne_eq, reduceCtorEq, not_false_eq_true, Bool.false_eq_true, Bool.true_eq_false, Bool.not_true, Bool.not_false, notInt, numB, tabB, Array.reduceGetElem?, upG, up, nth, lay, rcB, rnm, rnmL, wrB, pcB, res15, pl15, Option.isNone, g1, h0, gxy, g3, g4, sl_eq]
              repeat (refine ⟨by omega, ?_⟩)
              refine codeP_loop (pl := pl15) tabOk follows_mixed (by kernel_rfl) (fun z st => ∃ (i : Nat) (j : Nat → Value), i + z = X.length ∧ st = ⟨⟨113, [(0, .int .i64 (m + 1)), (9, .int .i64 N), (13, .osl r2 0 0 1 Y.length), (14, .int .i64 ((prs X Y i) : Nat)), (82, .osl r1 0 0 1 X.length), (83, .int .i64 (X.length : Nat)), (84, .int .i64 (i : Nat))], j⟩, H2, []⟩) ?_ ?_
              · refine into_keep [(0, .int .i64 (m + 1)), (9, .int .i64 N), (13, .osl r2 0 0 1 Y.length), (14, .int .i64 ((prs X Y 0) : Nat)), (82, .osl r1 0 0 1 X.length), (83, .int .i64 (X.length : Nat)), (84, .int .i64 (0 : Nat))] (by simp [sameT, slot, lkL, prs]) fun j => ⟨X.length, 0, j, by omega, rfl⟩
              · rintro z st ⟨i, j, hi, rfl⟩
                by_cases hix : i < X.length
                · have g5 : decide ((i : Int) < (X.length : Nat)) = true := decide_eq_true (by omega)
                  have a2 : IntKind.i64.wrap ((i : Int) + 1) = ((i + 1 : Nat) : Int) := by rw [wrap64 (by omega) (by omega)]; omega
                  have hpi := hp i (by omega)
                  simp -implicitDefEqProofs (maxSteps := 1000000) (disch := omega) only [↓vcB, ↓gd, ↓opP, ↓qv, ↓ef, ↓bslS, ↓stS, ↓mkS, ↓rangeS, ↓nextS, ↓entryS, ↓delS, ↓mupS, ↓appS, ↓s2bS, ↓resS, evB, Sx.look, slot, ↓lkL, putS, putO, argsL, ↓reduceIte, ofV, of1, lookH, putH, List.length_cons, List.length_nil, List.length_append, List.replicate, List.append, List.cons_append, List.nil_append, List.append_assoc, List.map_cons, List.map_nil, convS, fldA, nthT, idxA, idxS, fldS, oslN, bnd, slS, unS, valI, lenS, lookS, takeC, psB, asRow, csB, Int.toNat_natCast, Int.le_refl, and_self, rdF, Ent.row, ldS, sz, szL, wrF, bldF, plT, bldS, srcS, nilS, nilEq, mapC, binH, binS2, structS, eqL, eqF, binS, arrS, isI, tupS, stor, storL, Value.oneCell', minS, maxS, capS, true_and, and_true, Nat.reduceAdd, Nat.reduceSub, Nat.reduceMul, Nat.reduceLT, Nat.reduceLeDiff, Nat.reduceEqDiff, Nat.reduceBEq, Int.reduceToNat, Int.reduceNeg, Nat.zero_add, Nat.add_zero, Nat.sub_self, Nat.sub_zero, Nat.zero_mul, Nat.mul_one, Nat.zero_le, if_true, if_false, reduceIte, stays, inL, same1, qn, ldN, convN, lenN, List.mem_cons, List.not_mem_nil, Option.map_some, Option.map_none, cond_true, cond_false, Sx.imp_true, Sx.imp_false, implies_true, Int.reduceEq, Int.reduceNe, Int.reduceLE, Int.reduceLT, decide_true, decide_false, List.zipIdx_cons, List.zipIdx_nil, or_false, false_or, forall_eq_or_imp, forall_eq, ne_eq, reduceCtorEq, not_false_eq_true, Bool.false_eq_true, Bool.true_eq_false, Bool.not_true, Bool.not_false, notInt, numB, tabB, Array.reduceGetElem?, upG, up, nth, lay, rcB, rnm, rnmL, wrB, pcB, res15, pl15, Option.isNone, g5, a2, hr1, sl_eq]
                  repeat (refine ⟨by omega, ?_⟩)
                  refine codeP_loop (pl := pl15) tabOk follows_mixed (by kernel_rfl) (fun z st => ∃ (jj : Nat) (j : Nat → Value), jj + z = Y.length ∧ st = ⟨⟨113, [(0, .int .i64 (m + 1)), (9, .int .i64 N), (13, .osl r2 0 0 1 Y.length), (14, .int .i64 ((prs X Y i + occ (X.getD i 0) Y jj) : Nat)), (16, .int .i64 (X.getD i 0)), (82, .osl r1 0 0 1 X.length), (83, .int .i64 (X.length : Nat)), (84, .int .i64 (i : Nat)), (88, .osl r2 0 0 1 Y.length), (89, .int .i64 (Y.length : Nat)), (90, .int .i64 (jj : Nat))], j⟩, H2, []⟩) ?_ ?_
                  · refine into_keep [(0, .int .i64 (m + 1)), (9, .int .i64 N), (13, .osl r2 0 0 1 Y.length), (14, .int .i64 ((prs X Y i + occ (X.getD i 0) Y 0) : Nat)), (16, .int .i64 (X.getD i 0)), (82, .osl r1 0 0 1 X.length), (83, .int .i64 (X.length : Nat)), (84, .int .i64 (i : Nat)), (88, .osl r2 0 0 1 Y.length), (89, .int .i64 (Y.length : Nat)), (90, .int .i64 (0 : Nat))] (by simp [sameT, slot, lkL, occ]) fun j => ⟨Y.length, 0, j, by omega, rfl⟩
                  · rintro z2 st ⟨jj, j2, hj, rfl⟩
                    by_cases hjx : jj < Y.length
                    · have g6 : decide ((jj : Int) < (Y.length : Nat)) = true := decide_eq_true (by omega)
                      have a3 : IntKind.i64.wrap ((jj : Int) + 1) = ((jj + 1 : Nat) : Int) := by rw [wrap64 (by omega) (by omega)]; omega
                      have ho := occ_succ (X.getD i 0) Y hjx
                      have hol := occ_le (X.getD i 0) Y jj
                      cases ge : (X.getD i 0 == Y.getD jj 0) with
                      | true =>
                        rw [ge, if_pos rfl] at ho
                        have a4 : IntKind.i64.wrap (((prs X Y i + occ (X.getD i 0) Y jj : Nat) : Int) + 1) = ((prs X Y i + occ (X.getD i 0) Y (jj + 1) : Nat) : Int) := by rw [wrap64 (by omega) (by omega)]; omega
                        simp -implicitDefEqProofs (maxSteps := 1000000) (disch := omega) only [↓vcB, ↓gd, ↓opP, ↓qv, ↓ef, ↓bslS, ↓stS, ↓mkS, ↓rangeS, ↓nextS, ↓entryS, ↓delS, ↓mupS, ↓appS, ↓s2bS, ↓resS, evB, Sx.look, slot, ↓lkL, putS, putO, argsL, ↓reduceIte, ofV, of1, lookH, putH, List.length_cons, List.length_nil, List.length_append, List.replicate, List.append, List.cons_append, List.nil_append, List.append_assoc, List.map_cons, List.map_nil, convS, fldA, nthT, idxA, idxS, fldS, oslN, bnd, slS, unS, valI, lenS, lookS, takeC, psB, asRow, csB, Int.toNat_natCast, Int.le_refl, and_self, rdF, Ent.row, ldS, sz, szL, wrF, bldF, plT, bldS, srcS, nilS, nilEq, mapC, binH, binS2, structS, eqL, eqF, binS, arrS, isI, tupS, stor, storL, Value.oneCell', minS, maxS, capS, true_and, and_true, Nat.reduceAdd, Nat.reduceSub, Nat.reduceMul, Nat.reduceLT, Nat.reduceLeDiff, Nat.reduceEqDiff, Nat.reduceBEq, Int.reduceToNat, Int.reduceNeg, Nat.zero_add, Nat.add_zero, Nat.sub_self, Nat.sub_zero, Nat.zero_mul, Nat.mul_one, Nat.zero_le, if_true, if_false, reduceIte, stays, inL, same1, qn, ldN, convN, lenN, List.mem_cons, List.not_mem_nil, Option.map_some, Option.map_none, cond_true, cond_false, Sx.imp_true, Sx.imp_false, implies_true, Int.reduceEq, Int.reduceNe, Int.reduceLE, Int.reduceLT, decide_true, decide_false, List.zipIdx_cons, List.zipIdx_nil, or_false, false_or, forall_eq_or_imp, forall_eq, ne_eq, reduceCtorEq, not_false_eq_true, Bool.false_eq_true, Bool.true_eq_false, Bool.not_true, Bool.not_false, notInt, numB, tabB, Array.reduceGetElem?, upG, up, nth, lay, rcB, rnm, rnmL, wrB, pcB, res15, pl15, Option.isNone, g6, a3, a4, ge, hr2, sl_eq]
                        repeat (refine ⟨by omega, ?_⟩)
                        refine into_keep [(0, .int .i64 (m + 1)), (9, .int .i64 N), (13, .osl r2 0 0 1 Y.length), (14, .int .i64 ((prs X Y i + occ (X.getD i 0) Y (jj + 1)) : Nat)), (16, .int .i64 (X.getD i 0)), (82, .osl r1 0 0 1 X.length), (83, .int .i64 (X.length : Nat)), (84, .int .i64 (i : Nat)), (88, .osl r2 0 0 1 Y.length), (89, .int .i64 (Y.length : Nat)), (90, .int .i64 ((jj + 1) : Nat))] (by simp [sameT, slot, lkL]) fun j => ⟨z2 - 1, by omega, jj + 1, j, by omega, rfl⟩
                      | false =>
                        rw [ge, if_neg Bool.false_ne_true] at ho
                        simp -implicitDefEqProofs (maxSteps := 1000000) (disch := omega) only [↓vcB, ↓gd, ↓opP, ↓qv, ↓ef, ↓bslS, ↓stS, ↓mkS, ↓rangeS, ↓nextS, ↓entryS, ↓delS, ↓mupS, ↓appS, ↓s2bS, ↓resS, evB, Sx.look, slot, ↓lkL, putS, putO, argsL, ↓reduceIte, ofV, of1, lookH, putH, List.length_cons, List.length_nil, List.length_append, List.replicate, List.append, List.cons_append, List.nil_append, List.append_assoc, List.map_cons, List.map_nil, convS, fldA, nthT, idxA, idxS, fldS, oslN, bnd, slS, unS, valI, lenS, lookS, takeC, psB, asRow, csB, Int.toNat_natCast, Int.le_refl, and_self, rdF, Ent.row, ldS, sz, szL, wrF, bldF, plT, bldS, srcS, nilS, nilEq, mapC, binH, binS2, structS, eqL, eqF, binS, arrS, isI, tupS, stor, storL, Value.oneCell', minS, maxS, capS, true_and, and_true, Nat.reduceAdd, Nat.reduceSub, Nat.reduceMul, Nat.reduceLT, Nat.reduceLeDiff, Nat.reduceEqDiff, Nat.reduceBEq, Int.reduceToNat, Int.reduceNeg, Nat.zero_add, Nat.add_zero, Nat.sub_self, Nat.sub_zero, Nat.zero_mul, Nat.mul_one, Nat.zero_le, if_true, if_false, reduceIte, stays, inL, same1, qn, ldN, convN, lenN, List.mem_cons, List.not_mem_nil, Option.map_some, Option.map_none, cond_true, cond_false, Sx.imp_true, Sx.imp_false, implies_true, Int.reduceEq, Int.reduceNe, Int.reduceLE, Int.reduceLT, decide_true, decide_false, List.zipIdx_cons, List.zipIdx_nil, or_false, false_or, forall_eq_or_imp, forall_eq, ne_eq, reduceCtorEq, not_false_eq_true, Bool.false_eq_true, Bool.true_eq_false, Bool.not_true, Bool.not_false, notInt, numB, tabB, Array.reduceGetElem?, upG, up, nth, lay, rcB, rnm, rnmL, wrB, pcB, res15, pl15, Option.isNone, g6, a3, ge, hr2, sl_eq]
                        repeat (refine ⟨by omega, ?_⟩)
                        refine into_keep [(0, .int .i64 (m + 1)), (9, .int .i64 N), (13, .osl r2 0 0 1 Y.length), (14, .int .i64 ((prs X Y i + occ (X.getD i 0) Y jj) : Nat)), (16, .int .i64 (X.getD i 0)), (82, .osl r1 0 0 1 X.length), (83, .int .i64 (X.length : Nat)), (84, .int .i64 (i : Nat)), (88, .osl r2 0 0 1 Y.length), (89, .int .i64 (Y.length : Nat)), (90, .int .i64 ((jj + 1) : Nat))] (by simp [sameT, slot, lkL]) fun j => ⟨z2 - 1, by omega, jj + 1, j, by omega, by rw [ho]; rfl⟩
                    · have g6 : decide ((jj : Int) < (Y.length : Nat)) = false := decide_eq_false (by omega)
                      obtain rfl : jj = Y.length := by omega
                      simp -implicitDefEqProofs (maxSteps := 1000000) (disch := omega) only [↓vcB, ↓gd, ↓opP, ↓qv, ↓ef, ↓bslS, ↓stS, ↓mkS, ↓rangeS, ↓nextS, ↓entryS, ↓delS, ↓mupS, ↓appS, ↓s2bS, ↓resS, evB, Sx.look, slot, ↓lkL, putS, putO, argsL, ↓reduceIte, ofV, of1, lookH, putH, List.length_cons, List.length_nil, List.length_append, List.replicate, List.append, List.cons_append, List.nil_append, List.append_assoc, List.map_cons, List.map_nil, convS, fldA, nthT, idxA, idxS, fldS, oslN, bnd, slS, unS, valI, lenS, lookS, takeC, psB, asRow, csB, Int.toNat_natCast, Int.le_refl, and_self, rdF, Ent.row, ldS, sz, szL, wrF, bldF, plT, bldS, srcS, nilS, nilEq, mapC, binH, binS2, structS, eqL, eqF, binS, arrS, isI, tupS, stor, storL, Value.oneCell', minS, maxS, capS, true_and, and_true, Nat.reduceAdd, Nat.reduceSub, Nat.reduceMul, Nat.reduceLT, Nat.reduceLeDiff, Nat.reduceEqDiff, Nat.reduceBEq, Int.reduceToNat, Int.reduceNeg, Nat.zero_add, Nat.add_zero, Nat.sub_self, Nat.sub_zero, Nat.zero_mul, Nat.mul_one, Nat.zero_le, if_true, if_false, reduceIte, stays, inL, same1, qn, ldN, convN, lenN, List.mem_cons, List.not_mem_nil, Option.map_some, Option.map_none, cond_true, cond_false, Sx.imp_true, Sx.imp_false, implies_true, Int.reduceEq, Int.reduceNe, Int.reduceLE, Int.reduceLT, decide_true, decide_false, List.zipIdx_cons, List.zipIdx_nil, or_false, false_or, forall_eq_or_imp, forall_eq, ne_eq, reduceCtorEq, not_false_eq_true, Bool.false_eq_true, Bool.true_eq_false, Bool.not_true, Bool.not_false, notInt, numB, tabB, Array.reduceGetElem?, upG, up, nth, lay, rcB, rnm, rnmL, wrB, pcB, res15, pl15, Option.isNone, g6, a2, sl_eq]
                      repeat (refine ⟨by omega, ?_⟩)
                      refine into_keep [(0, .int .i64 (m + 1)), (9, .int .i64 N), (13, .osl r2 0 0 1 Y.length), (14, .int .i64 ((prs X Y (i + 1)) : Nat)), (82, .osl r1 0 0 1 X.length), (83, .int .i64 (X.length : Nat)), (84, .int .i64 ((i + 1) : Nat))] (by simp [sameT, slot, lkL, prs]) fun j => ⟨z - 1, by omega, i + 1, j, by omega, rfl⟩
                · have g5 : decide ((i : Int) < (X.length : Nat)) = false := decide_eq_false (by omega)
                  obtain rfl : i = X.length := by omega
                  simp -implicitDefEqProofs (maxSteps := 1000000) (disch := omega) only [↓vcB, ↓gd, ↓opP, ↓qv, ↓ef, ↓bslS, ↓stS, ↓mkS, ↓rangeS, ↓nextS, ↓entryS, ↓delS, ↓mupS, ↓appS, ↓s2bS, ↓resS, evB, Sx.look, slot, ↓lkL, putS, putO, argsL, ↓reduceIte, ofV, of1, lookH, putH, List.length_cons, List.length_nil, List.length_append, List.replicate, List.append, List.cons_append, List.nil_append, List.append_assoc, List.map_cons, List.map_nil, convS, fldA, nthT, idxA, idxS, fldS, oslN, bnd, slS, unS, valI, lenS, lookS, takeC, psB, asRow, csB, Int.toNat_natCast, Int.le_refl, and_self, rdF, Ent.row, ldS, sz, szL, wrF, bldF, plT, bldS, srcS, nilS, nilEq, mapC, binH, binS2, structS, eqL, eqF, binS, arrS, isI, tupS, stor, storL, Value.oneCell', minS, maxS, capS, true_and, and_true, Nat.reduceAdd, Nat.reduceSub, Nat.reduceMul, Nat.reduceLT, Nat.reduceLeDiff, Nat.reduceEqDiff, Nat.reduceBEq, Int.reduceToNat, Int.reduceNeg, Nat.zero_add, Nat.add_zero, Nat.sub_self, Nat.sub_zero, Nat.zero_mul, Nat.mul_one, Nat.zero_le, if_true, if_false, reduceIte, stays, inL, same1, qn, ldN, convN, lenN, List.mem_cons, List.not_mem_nil, Option.map_some, Option.map_none, cond_true, cond_false, Sx.imp_true, Sx.imp_false, implies_true, Int.reduceEq, Int.reduceNe, Int.reduceLE, Int.reduceLT, decide_true, decide_false, List.zipIdx_cons, List.zipIdx_nil, or_false, false_or, forall_eq_or_imp, forall_eq, ne_eq, reduceCtorEq, not_false_eq_true, Bool.false_eq_true, Bool.true_eq_false, Bool.not_true, Bool.not_false, notInt, numB, tabB, Array.reduceGetElem?, upG, up, nth, lay, rcB, rnm, rnmL, wrB, pcB, res15, pl15, Option.isNone, g5, sl_eq]
                  repeat (refine ⟨by omega, ?_⟩)
                  refine c23 N ⟨by omega, by omega⟩ _ _ ?_
                  have g7 : decide (((prs X Y X.length : Nat) : Int) ≥ qW N) = true := decide_eq_true (by omega)
                  have g8 : decide (((prs X Y X.length : Nat) : Int) > m + 1) = true := decide_eq_true (by omega)
                  simp -implicitDefEqProofs (maxSteps := 1000000) (disch := omega) only [↓vcB, ↓gd, ↓opP, ↓qv, ↓ef, ↓bslS, ↓stS, ↓mkS, ↓rangeS, ↓nextS, ↓entryS, ↓delS, ↓mupS, ↓appS, ↓s2bS, ↓resS, evB, Sx.look, slot, ↓lkL, putS, putO, argsL, ↓reduceIte, ofV, of1, lookH, putH, List.length_cons, List.length_nil, List.length_append, List.replicate, List.append, List.cons_append, List.nil_append, List.append_assoc, List.map_cons, List.map_nil, convS, fldA, nthT, idxA, idxS, fldS, oslN, bnd, slS, unS, valI, lenS, lookS, takeC, psB, asRow, csB, Int.toNat_natCast, Int.le_refl, and_self, rdF, Ent.row, ldS, sz, szL, wrF, bldF, plT, bldS, srcS, nilS, nilEq, mapC, binH, binS2, structS, eqL, eqF, binS, arrS, isI, tupS, stor, storL, Value.oneCell', minS, maxS, capS, true_and, and_true, Nat.reduceAdd, Nat.reduceSub, Nat.reduceMul, Nat.reduceLT, Nat.reduceLeDiff, Nat.reduceEqDiff, Nat.reduceBEq, Int.reduceToNat, Int.reduceNeg, Nat.zero_add, Nat.add_zero, Nat.sub_self, Nat.sub_zero, Nat.zero_mul, Nat.mul_one, Nat.zero_le, if_true, if_false, reduceIte, stays, inL, same1, qn, ldN, convN, lenN, List.mem_cons, List.not_mem_nil, Option.map_some, Option.map_none, cond_true, cond_false, Sx.imp_true, Sx.imp_false, implies_true, Int.reduceEq, Int.reduceNe, Int.reduceLE, Int.reduceLT, decide_true, decide_false, List.zipIdx_cons, List.zipIdx_nil, or_false, false_or, forall_eq_or_imp, forall_eq, ne_eq, reduceCtorEq, not_false_eq_true, Bool.false_eq_true, Bool.true_eq_false, Bool.not_true, Bool.not_false, notInt, numB, tabB, Array.reduceGetElem?, upG, up, nth, lay, rcB, rnm, rnmL, wrB, pcB, res15, pl15, Option.isNone, g7, g8, sl_eq]
                  repeat (refine ⟨by omega, ?_⟩)
                  refine c25 _ _ ?_
                  simp -implicitDefEqProofs (maxSteps := 1000000) (disch := omega) only [↓vcB, ↓gd, ↓opP, ↓qv, ↓ef, ↓bslS, ↓stS, ↓mkS, ↓rangeS, ↓nextS, ↓entryS, ↓delS, ↓mupS, ↓appS, ↓s2bS, ↓resS, evB, Sx.look, slot, ↓lkL, putS, putO, argsL, ↓reduceIte, ofV, of1, lookH, putH, List.length_cons, List.length_nil, List.length_append, List.replicate, List.append, List.cons_append, List.nil_append, List.append_assoc, List.map_cons, List.map_nil, convS, fldA, nthT, idxA, idxS, fldS, oslN, bnd, slS, unS, valI, lenS, lookS, takeC, psB, asRow, csB, Int.toNat_natCast, Int.le_refl, and_self, rdF, Ent.row, ldS, sz, szL, wrF, bldF, plT, bldS, srcS, nilS, nilEq, mapC, binH, binS2, structS, eqL, eqF, binS, arrS, isI, tupS, stor, storL, Value.oneCell', minS, maxS, capS, true_and, and_true, Nat.reduceAdd, Nat.reduceSub, Nat.reduceMul, Nat.reduceLT, Nat.reduceLeDiff, Nat.reduceEqDiff, Nat.reduceBEq, Int.reduceToNat, Int.reduceNeg, Nat.zero_add, Nat.add_zero, Nat.sub_self, Nat.sub_zero, Nat.zero_mul, Nat.mul_one, Nat.zero_le, if_true, if_false, reduceIte, stays, inL, same1, qn, ldN, convN, lenN, List.mem_cons, List.not_mem_nil, Option.map_some, Option.map_none, cond_true, cond_false, Sx.imp_true, Sx.imp_false, implies_true, Int.reduceEq, Int.reduceNe, Int.reduceLE, Int.reduceLT, decide_true, decide_false, List.zipIdx_cons, List.zipIdx_nil, or_false, false_or, forall_eq_or_imp, forall_eq, ne_eq, reduceCtorEq, not_false_eq_true, Bool.false_eq_true, Bool.true_eq_false, Bool.not_true, Bool.not_false, notInt, numB, tabB, Array.reduceGetElem?, upG, up, nth, lay, rcB, rnm, rnmL, wrB, pcB, res15, pl15, Option.isNone, g7, g8, sl_eq]
                  repeat (refine ⟨by omega, ?_⟩)
                  exact intoR_refl hlen (hK _)
end Go.Proofs.Ytloinbebkhcndaa

set_option linter.all false
set_option maxRecDepth 40000
namespace Go.Proofs.Ytloinbebkhcndaa
open Go Go.Sx

/-! ### QuorumPlays: the plain law -/
abbrev Vt := Int × Str
theorem nodup_inj {α : Type} {l : List α} (h : l.Nodup) {i j : Nat} (hi : i < l.length) (hj : j < l.length) (e : l[i] = l[j]) : i = j := by
  rcases Nat.lt_trichotomy i j with c | c | c
  · exact absurd e (List.pairwise_iff_getElem.1 h i j hi hj c)
  · exact c
  · exact absurd e.symm (List.pairwise_iff_getElem.1 h j i hj hi c)
theorem vof_at {T : VT} (hn : (ks T).Nodup) {i : Nat} (hi : i < T.length) {x : Str} (hx : (ks T)[i]'(by rw [ks_len]; exact hi) = x) : vof T x = vs T i := by
  unfold vof
  cases hq : (ks T).findIdx? (x == ·) with
  | none => exact absurd (hx ▸ List.getElem_mem _) (find_none.1 hq)
  | some j =>
    obtain ⟨hj, hxj⟩ := find_some hq
    have : j = i := nodup_inj hn hj (by rw [ks_len]; exact hi) (hxj.trans hx.symm)
    rw [this]
theorem vof_no {T : VT} {x : Str} (hx : x ∉ ks T) : vof T x = [] := by
  unfold vof
  rw [find_none.2 hx]
theorem ks_idx {T : VT} {x : Str} (hx : x ∈ ks T) : ∃ i, ∃ hi : i < T.length, (ks T)[i]'(by rw [ks_len]; exact hi) = x := by
  obtain ⟨i, hi, h⟩ := List.getElem_of_mem hx
  exact ⟨i, by rwa [ks_len] at hi, h⟩
theorem ks_addT (T : VT) (x : Str) (a : Int) : ks (addT T x a) = if x ∈ ks T then ks T else ks T ++ [x] := by
  unfold addT
  cases hq : (ks T).findIdx? (x == ·) with
  | some i =>
    obtain ⟨hi, hx⟩ := find_some hq
    rw [if_pos (hx ▸ List.getElem_mem _)]
    by_cases hm : a ∈ vs T i
    · simp only [if_pos hm]
    · simp only [if_neg hm]
      exact ks_set T i x _ (by rwa [ks_len] at hi) hx
  | none =>
    rw [if_neg (find_none.1 hq)]
    exact ks_snoc T x _
theorem vof_addT {T : VT} (hn : (ks T).Nodup) (x : Str) (a : Int) (y : Str) : vof (addT T x a) y = if y = x then (if a ∈ vof T x then vof T x else vof T x ++ [a]) else vof T y := by
  have hk := ks_addT T x a
  cases hq : (ks T).findIdx? (x == ·) with
  | some i =>
    obtain ⟨hi0, hx⟩ := find_some hq
    have hi : i < T.length := by rwa [ks_len] at hi0
    have hvx := vof_at hn hi hx
    by_cases hm : a ∈ vs T i
    · have e : addT T x a = T := by unfold addT; rw [hq]; exact if_pos hm
      rw [e, hvx, if_pos hm]
      by_cases hy : y = x
      · rw [if_pos hy, hy, hvx]
      · rw [if_neg hy]
    · have e : addT T x a = T.set i (x, vs T i ++ [a]) := by unfold addT; rw [hq]; exact if_neg hm
      have hks := ks_set T i x (vs T i ++ [a]) hi hx
      have hn' : (ks (T.set i (x, vs T i ++ [a]))).Nodup := by rw [hks]; exact hn
      rw [e, hvx, if_neg hm]
      by_cases hy : y = x
      · subst hy
        rw [if_pos rfl, vof_at hn' (i := i) (by rw [List.length_set]; exact hi) (x := y) (by simp only [hks]; exact hx), vs_set T i _ hi, if_pos rfl]
      · rw [if_neg hy]
        by_cases hyk : y ∈ ks T
        · obtain ⟨j, hj, hjy⟩ := ks_idx hyk
          have hji : j ≠ i := by rintro rfl; exact hy (hjy.symm.trans hx)
          rw [vof_at hn hj hjy, vof_at hn' (i := j) (by rw [List.length_set]; exact hj) (x := y) (by simp only [hks]; exact hjy), vs_set T i _ hi, if_neg hji]
        · rw [vof_no hyk, vof_no (by rw [hks]; exact hyk)]
  | none =>
    have hx := find_none.1 hq
    have e : addT T x a = T ++ [(x, [a])] := by unfold addT; rw [hq]
    have hks := ks_snoc T x [a]
    have hn' : (ks (T ++ [(x, [a])])).Nodup := by
      rw [hks, List.nodup_append]
      exact ⟨hn, List.pairwise_singleton _ _, fun b hb c hc e => by rw [List.mem_singleton] at hc; exact hx (by rw [← hc, ← e]; exact hb)⟩
    have h0 : (if a ∈ vof T x then vof T x else vof T x ++ [a]) = [a] := by rw [vof_no hx]; simp
    rw [e, h0]
    by_cases hy : y = x
    · subst hy
      rw [if_pos rfl, vof_at hn' (i := T.length) (by simp) (x := y) (by simp [hks, ks_len, List.getElem_append_right]), vs_snoc T _ _ (by omega), if_pos rfl]
    · rw [if_neg hy]
      by_cases hyk : y ∈ ks T
      · obtain ⟨j, hj, hjy⟩ := ks_idx hyk
        rw [vof_at hn hj hjy, vof_at hn' (i := j) (by simp; omega) (x := y) (by simp only [hks]; rw [List.getElem_append_left (by rw [ks_len]; exact hj)]; exact hjy), vs_snoc T _ _ (by omega), if_neg (by omega)]
      · rw [vof_no hyk, vof_no (by rw [hks]; simp [hyk, hy])]
structure Rel (m : List Vt) (T : VT) : Prop where
  nd : m.Nodup
  mv : ∀ a x, (a, x) ∈ m ↔ a ∈ vof T x
theorem Rel.nil : Rel [] [] := ⟨List.nodup_nil, fun a x => by simp [vof, ks]⟩
theorem Rel.new {m : List Vt} {T : VT} (h : Rel m T) (x : Str) (a : Int) : newT T x a = decide ((a, x) ∉ m) := by
  have h1 := h.mv a x
  unfold vof at h1
  unfold newT
  cases hq : (ks T).findIdx? (x == ·) with
  | some i => rw [hq] at h1; simp only at h1; simp only [h1]
  | none => rw [hq] at h1; simp at h1; simp [h1]
theorem Rel.dup {m : List Vt} {T : VT} (h : Rel m T) {x : Str} {a : Int} (hm : (a, x) ∈ m) : addT T x a = T := by
  have h1 := (h.mv a x).1 hm
  unfold vof at h1
  unfold addT
  cases hq : (ks T).findIdx? (x == ·) with
  | some i => rw [hq] at h1; exact if_pos h1
  | none => rw [hq] at h1; cases h1
theorem Rel.add {m : List Vt} {T : VT} (h : Rel m T) (hn : (ks T).Nodup) {x : Str} {a : Int} (hm : (a, x) ∉ m) : Rel (m ++ [(a, x)]) (addT T x a) := by
  refine ⟨?_, fun b y => ?_⟩
  · rw [List.nodup_append]
    exact ⟨h.nd, List.pairwise_singleton _ _, fun b hb c hc e => by rw [List.mem_singleton] at hc; exact hm (by rw [← hc, ← e]; exact hb)⟩
  · have h0 : a ∉ vof T x := fun q => hm ((h.mv a x).2 q)
    rw [vof_addT hn, List.mem_append, List.mem_singleton, Prod.mk.injEq, h.mv b y, if_neg h0]
    by_cases hy : y = x
    · subst hy
      rw [if_pos rfl, List.mem_append, List.mem_singleton]
      simp
    · rw [if_neg hy]
      simp [hy]
/-- How many of p are for y. -/
def nm (p : List Vt) (y : Str) : Nat := (p.filter fun v => v.2 == y).length
theorem nm_le (p : List Vt) (y : Str) : nm p y ≤ p.length := List.length_filter_le _ _
theorem nm_snoc (p : List Vt) (v : Vt) (y : Str) : nm (p ++ [v]) y = nm p y + if v.2 = y then 1 else 0 := by
  unfold nm
  rw [List.filter_append, List.length_append]
  by_cases h : v.2 = y <;> simp [h]
theorem nm_pos {p : List Vt} {y : Str} : 0 < nm p y ↔ ∃ a, (a, y) ∈ p := by
  unfold nm
  rw [List.length_pos_iff_exists_mem]
  constructor
  · rintro ⟨⟨a, z⟩, h⟩
    rw [List.mem_filter] at h
    have := eq_of_beq h.2
    simp only at this
    subst this
    exact ⟨a, h.1⟩
  · rintro ⟨a, h⟩
    exact ⟨(a, y), List.mem_filter.2 ⟨h, beq_self_eq_true _⟩⟩
theorem take_snoc {α : Type} (d : α) (m : List α) {j : Nat} (hj : j < m.length) : m.take (j + 1) = m.take j ++ [m.getD j d] := by
  rw [List.take_succ, List.getD_eq_getElem?_getD, List.getElem?_eq_getElem hj]
  rfl
theorem sel_perm {m : List Vt} {T : VT} (h : Rel m T) (y : Str) (hv : (vof T y).Nodup) : ((m.filter fun v => v.2 == y).map (·.1)).Perm (vof T y) := by
  refine (List.perm_ext_iff_of_nodup ?_ hv).2 fun a => ?_
  · unfold List.Nodup
    rw [List.pairwise_map]
    refine (h.nd.filter _).imp_of_mem ?_
    rintro ⟨a, b⟩ ⟨c, d⟩ ha hc hne e
    rw [List.mem_filter] at ha hc
    have h1 := eq_of_beq ha.2
    have h2 := eq_of_beq hc.2
    simp only at h1 h2 e
    exact hne (by rw [h1, h2, e])
  · rw [← h.mv a y, List.mem_map]
    constructor
    · rintro ⟨⟨b, z⟩, hb, rfl⟩
      rw [List.mem_filter] at hb
      have h1 := eq_of_beq hb.2
      simp only at h1
      subst h1
      exact hb.1
    · intro ha
      exact ⟨(a, y), List.mem_filter.2 ⟨ha, beq_self_eq_true _⟩, rfl⟩
theorem nm_vof {m : List Vt} {T : VT} (h : Rel m T) (y : Str) (hv : (vof T y).Nodup) : nm m y = (vof T y).length := by
  have := (sel_perm h y hv).length_eq
  rwa [List.length_map] at this
/-! Insertion. -/
def insG {α : Type} (M : List α) (p : Nat) (k : α) : List α := M.take p ++ [k] ++ M.drop p
theorem insG_len {α : Type} (M : List α) (p : Nat) (k : α) (h : p ≤ M.length) : (insG M p k).length = M.length + 1 := by
  simp [insG]; omega
theorem insG_getD {α : Type} (d : α) (M : List α) (p : Nat) (k : α) (hp : p ≤ M.length) (i : Nat) : (insG M p k).getD i d = if i < p then M.getD i d else if i = p then k else M.getD (i - 1) d := by
  unfold insG
  rw [List.getD_eq_getElem?_getD]
  by_cases h1 : i < p
  · rw [if_pos h1, List.getElem?_append_left (by simp; omega), List.getElem?_append_left (by simp; omega), List.getElem?_take_of_lt h1, ← List.getD_eq_getElem?_getD]
  · rw [if_neg h1]
    by_cases h2 : i = p
    · subst h2
      rw [if_pos rfl, List.getElem?_append_left (by simp; omega), List.getElem?_append_right (by simp; omega)]
      simp [Nat.min_eq_left hp]
    · rw [if_neg h2, List.getElem?_append_right (by simp; omega), List.getElem?_drop, ← List.getD_eq_getElem?_getD]
      congr 1
      simp [Nat.min_eq_left hp]
      omega
theorem insG_perm {α : Type} (M : List α) (p : Nat) (k : α) : (insG M p k).Perm (M ++ [k]) := by
  unfold insG
  have h : (M.take p ++ [k] ++ M.drop p).Perm (M.take p ++ M.drop p ++ [k]) := by
    rw [List.append_assoc, List.append_assoc]
    exact List.Perm.append_left _ List.perm_append_comm
  rwa [List.take_append_drop] at h
theorem ins_sort {W L : List Int} {a : Int} {p : Nat} (hW : W = L.mergeSort fun x y => decide (x ≤ y)) (hp : p ≤ W.length) (h1 : ∀ j, j < p → W.getD j 0 < a) (h2 : p < W.length → ¬ W.getD p 0 < a) : insG W p a = (L ++ [a]).mergeSort fun x y => decide (x ≤ y) := by
  have hs : W.Pairwise (fun x y => x ≤ y) := by
    have := List.pairwise_mergeSort (le := fun x y : Int => decide (x ≤ y)) (fun a b c h1 h2 => by simp at h1 h2 ⊢; omega) (fun a b => by simp; omega) L
    rw [← hW] at this
    exact this.imp fun h => by simpa using h
  have hg : ∀ i j, i < j → j < W.length → W.getD i 0 ≤ W.getD j 0 := fun i j hij hj => by
    have := List.pairwise_iff_getElem.1 hs i j (by omega) hj hij
    simpa [List.getD_eq_getElem?_getD, List.getElem?_eq_getElem hj, List.getElem?_eq_getElem (show i < W.length by omega)] using this
  have hl := insG_len W p a hp
  have hs' : (insG W p a).Pairwise (fun x y => x ≤ y) := by
    rw [List.pairwise_iff_getElem]
    intro i j hi hj hij
    have e : ∀ k (hk : k < (insG W p a).length), (insG W p a)[k] = (insG W p a).getD k 0 := fun k hk => by rw [List.getD_eq_getElem?_getD, List.getElem?_eq_getElem hk]; rfl
    rw [e i hi, e j hj, insG_getD 0 W p a hp, insG_getD 0 W p a hp]
    rw [hl] at hi hj
    by_cases c1 : j < p
    · rw [if_pos c1, if_pos (by omega)]
      exact hg i j hij (by omega)
    · rw [if_neg c1]
      by_cases c2 : j = p
      · rw [if_pos c2, if_pos (by omega)]
        exact Int.le_of_lt (h1 i (by omega))
      · rw [if_neg c2]
        by_cases c3 : i < p
        · rw [if_pos c3]
          exact hg i (j - 1) (by omega) (by omega)
        · rw [if_neg c3]
          have h3 := h2 (by omega)
          by_cases c4 : i = p
          · rw [if_pos c4]
            by_cases c5 : j - 1 = p
            · rw [c5]; omega
            · have := hg p (j - 1) (by omega) (by omega); omega
          · rw [if_neg c4]
            exact hg (i - 1) (j - 1) (by omega) (by omega)
  have hperm : (insG W p a).Perm (L ++ [a]) := (insG_perm W p a).trans ((hW ▸ List.mergeSort_perm L _).append_right [a])
  rw [← sortI_perm hperm]
  exact (List.mergeSort_of_pairwise (hs'.imp fun {a b} h => by simpa using h)).symm
/-! Keys and counts. -/
structure KC (p : List Vt) (M : List Str) (C : List Int) : Prop where
  rs : Ris M
  ln : C.length = M.length
  mm : ∀ y, y ∈ M ↔ 0 < nm p y
  ct : ∀ i, i < M.length → C.getD i 0 = (nm p (M.getD i default) : Nat)
  le : M.length ≤ p.length
theorem KC.nil : KC [] [] [] := ⟨List.Pairwise.nil, rfl, fun y => by simp [nm], fun i hi => absurd hi (Nat.not_lt_zero _), Nat.le_refl _⟩
theorem KC.inc {p : List Vt} {M : List Str} {C : List Int} (h : KC p M C) {v : Vt} {a : Nat} (ha : a < M.length) (he : M.getD a default = v.2) : KC (p ++ [v]) M (C.set a (C.getD a 0 + 1)) := by
  refine ⟨h.rs, by rw [List.length_set]; exact h.ln, fun y => ?_, fun i hi => ?_, by rw [List.length_append]; have := h.le; omega⟩
  · rw [nm_snoc, h.mm y]
    by_cases hy : v.2 = y
    · have h1 : 0 < nm p y := (h.mm y).1 (by rw [← hy, ← he]; exact getD_mem' ha)
      omega
    · rw [if_neg hy]
      omega
  · have hlc := h.ln
    rw [nm_snoc, List.getD_eq_getElem?_getD, List.getElem?_set]
    by_cases hia : a = i
    · subst hia
      rw [if_pos rfl, if_pos (by omega), he, if_pos rfl]
      have := h.ct a ha
      rw [he] at this
      simp only [Option.getD_some]
      omega
    · rw [if_neg hia, ← List.getD_eq_getElem?_getD, h.ct i hi, if_neg, Nat.add_zero]
      intro e
      rw [← he] at e
      rcases Nat.lt_trichotomy a i with hx | hx | hx
      · exact absurd (Ris_lt h.rs hx hi) (by rw [e]; exact List.lt_irrefl _)
      · exact hia hx
      · exact absurd (Ris_lt h.rs hx ha) (by rw [e]; exact List.lt_irrefl _)
theorem KC.ins {p : List Vt} {M : List Str} {C : List Int} (h : KC p M C) {v : Vt} {a : Nat} (ha : AtK M v.2 a) (hv : v.2 ∉ M) : KC (p ++ [v]) (insAt M a v.2) (insG C a 1) := by
  have h0 : nm p v.2 = 0 := by
    have := h.mm v.2
    rcases Nat.eq_zero_or_pos (nm p v.2) with h1 | h1
    · exact h1
    · exact absurd (this.2 h1) hv
  refine ⟨Ris_insAt h.rs ha hv, ?_, fun y => ?_, fun i hi => ?_, ?_⟩
  · rw [insAt_len _ _ _ ha.1, insG_len _ _ _ (by rw [h.ln]; exact ha.1), h.ln]
  · rw [mem_insAt, nm_snoc, h.mm y]
    by_cases hy : v.2 = y
    · rw [if_pos hy]
      exact ⟨fun _ => by omega, fun _ => .inr hy.symm⟩
    · rw [if_neg hy]
      exact ⟨fun q => q.elim (fun q => by omega) fun q => absurd q.symm hy, fun q => .inl (by omega)⟩
  · rw [insAt_len _ _ _ ha.1] at hi
    rw [nm_snoc, insG_getD 0 C a 1 (by rw [h.ln]; exact ha.1), insAt_getD M a v.2 ha.1]
    by_cases c1 : i < a
    · have hia : i < M.length := Nat.lt_of_lt_of_le c1 ha.1
      rw [if_pos c1, if_pos c1, h.ct i hia, if_neg, Nat.add_zero]
      intro e
      exact hv (e ▸ getD_mem' hia)
    · rw [if_neg c1, if_neg c1]
      by_cases c2 : i = a
      · rw [if_pos c2, if_pos c2, if_pos rfl, h0]
        rfl
      · have hia : i - 1 < M.length := by omega
        rw [if_neg c2, if_neg c2, h.ct (i - 1) hia, if_neg, Nat.add_zero]
        intro e
        exact hv (e ▸ getD_mem' hia)
  · rw [insAt_len _ _ _ ha.1, List.length_append]
    have := h.le
    simp
    omega
theorem KC.sorted {m : List Vt} {M : List Str} {C : List Int} {T : VT} (h : KC m M C) (hr : Rel m T) (hn : (ks T).Nodup) (hne : ∀ i, i < T.length → vs T i ≠ []) : M = (ks T).mergeSort fun a b => decide (a ≤ b) := by
  refine (Ris_sort h.rs hn fun y => ?_).symm
  rw [h.mm y, nm_pos]
  constructor
  · rintro ⟨a, ha⟩
    have h1 := (hr.mv a y).1 ha
    by_cases hy : y ∈ ks T
    · exact hy
    · rw [vof_no hy] at h1; cases h1
  · intro hy
    obtain ⟨i, hi, hx⟩ := ks_idx hy
    have h1 := hne i hi
    rw [← vof_at hn hi hx] at h1
    obtain ⟨a, ha⟩ := List.exists_mem_of_ne_nil _ h1
    exact ⟨a, (hr.mv a y).2 ha⟩
end Go.Proofs.Ytloinbebkhcndaa
