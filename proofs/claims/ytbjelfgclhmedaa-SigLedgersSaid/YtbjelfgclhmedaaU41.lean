/- Contracts of functions that the laws reach, by the symbolic executor of the texts Sxa to Sxt. No condition. -/
import Derived.Test.YtbjelfgclhmedaaU28
import Derived.Test.YtbjelfgclhmedaaSgs
import Derived.Test.YtbjelfgclhmedaaPc
set_option linter.all false
set_option maxRecDepth 40000
namespace Go.Proofs.Ytbjelfgclhmedaa
open Go Go.Sx

def pl33 : Nat → Plan
  | 1 => (.q 0 (.q 1 (.q 2 (.q 3 (.q 4 (.q 5 (.q 6 (.q 7 (.q 8 (.q 9 (.q 10 (.q 11 .nil))))))))))))
  | _ => .nil

def pl32 : Nat → Plan
  | 5 => (.q 0 (.q 1 (.q 2 (.q 3 (.q 4 (.e1 5 [3, 4] .nil))))))
  | _ => .nil


/-- The same signature. -/
def sgEq (s t : Sg) : Bool := (s.a == t.a) && famEq 32 (fun i => .int .u8 (nat (s.D i))) (fun i => .int .u8 (nat (t.D i)))
theorem keyE_sg (s t : Sg) : ∃ p, keyE tab 40 s.v t.v = some (p, sgEq s t) ∧ p := by
  simp [keyE, Sg.v, structS, tabB, eqL, rdF, Ent.row, takeC, asRow, single, eqF, arrS, isI, sz, szL, sgEq, storL, stor]
  exact ⟨True, trivial⟩
theorem keyS_sg (s : Sg) : keyS tab 40 s.v := by
  simp [keyS, Sg.v, tabB, flatL, flatE, rdF, Ent.row, takeC, asRow, single, sz, szL, storL, stor]
def inS (n : Nat) (m : Nat → Sg) (s : Sg) : Bool := (List.range n).any fun i => sgEq s (m i)
theorem sgEq_iff (s t : Sg) : sgEq s t = true ↔ s.a = t.a ∧ ∀ i, i < 32 → s.D i = t.D i := by
  simp only [sgEq, Bool.and_eq_true, beq_iff_eq, famEq, decide_eq_true_eq]
  refine and_congr Iff.rfl (forall_congr' fun i => imp_congr Iff.rfl ?_)
  simp only [valI, nat_inj]
theorem sgEq_refl (s : Sg) : sgEq s s = true := (sgEq_iff s s).2 ⟨rfl, fun _ _ => rfl⟩
theorem sgEq_symm {s t : Sg} (h : sgEq s t = true) : sgEq t s = true := by
  rw [sgEq_iff] at h ⊢
  exact ⟨h.1.symm, fun i hi => (h.2 i hi).symm⟩
theorem sgEq_comm (s t : Sg) : sgEq s t = sgEq t s := by
  cases h : sgEq s t with
  | true => exact (sgEq_symm h).symm
  | false => cases h2 : sgEq t s with
    | true => rw [sgEq_symm h2] at h; cases h
    | false => rfl
theorem sgEq_trans {s t u : Sg} (h : sgEq s t = true) (h' : sgEq t u = true) : sgEq s u = true := by
  rw [sgEq_iff] at h h' ⊢
  exact ⟨h.1.trans h'.1, fun i hi => (h.2 i hi).trans (h'.2 i hi)⟩
theorem sgEq_congr {s t : Sg} (h : sgEq s t = true) (u : Sg) : sgEq s u = sgEq t u := by
  cases h2 : sgEq t u with
  | true => exact sgEq_trans h h2
  | false => cases h3 : sgEq s u with
    | false => rfl
    | true => rw [sgEq_trans (sgEq_symm h) h3] at h2; cases h2
theorem inS_iff (n : Nat) (m : Nat → Sg) (s : Sg) : inS n m s = true ↔ ∃ i, i < n ∧ sgEq s (m i) = true := by
  simp [inS]
theorem keys_sg (n : Nat) (m : Nat → Sg) (key : Nat → SV) (hkey : ∀ i, key i = (m i).v) (s : Sg) : keysS tab 40 s.v n key := fun i _ => by
  obtain ⟨p, h, hp⟩ := keyE_sg s (m i)
  exact ⟨p, _, by rw [hkey]; exact h, hp⟩
theorem mfind_sg (m : Nat → Sg) (key : Nat → SV) (hkey : ∀ i, key i = (m i).v) (s : Sg) : ∀ (n i : Nat), mfindF tab 40 s.v key n i = none ↔ ∀ j, i ≤ j → j < i + n → sgEq s (m j) = false
  | 0, i => by simp only [mfindF, true_iff]; intro j h1 h2; omega
  | n + 1, i => by
    obtain ⟨p, h, hp⟩ := keyE_sg s (m i)
    have ih := mfind_sg m key hkey s n (i + 1)
    simp only [mfindF, hkey i, h]
    cases hb : sgEq s (m i) with
    | true =>
      simp only [reduceCtorEq, false_iff]
      intro h2
      have := h2 i (Nat.le_refl _) (by omega)
      rw [hb] at this
      cases this
    | false =>
      simp only [ih]
      constructor
      · intro h2 j h3 h4
        by_cases hj : j = i
        · subst hj; exact hb
        · exact h2 j (by omega) (by omega)
      · intro h2 j h3 h4
        exact h2 j (by omega) (by omega)
theorem mfind_has (n : Nat) (m : Nat → Sg) (key : Nat → SV) (hkey : ∀ i, key i = (m i).v) (s : Sg) : (mfind tab 40 s.v n key).isSome = inS n m s := by
  unfold mfind
  cases h : mfindF tab 40 s.v key n 0 with
  | none =>
    have h2 := (mfind_sg m key hkey s n 0).1 h
    cases h3 : inS n m s with
    | false => rfl
    | true =>
      obtain ⟨i, hi, he⟩ := (inS_iff n m s).1 h3
      rw [h2 i (Nat.zero_le _) (by omega)] at he
      cases he
  | some j =>
    cases h3 : inS n m s with
    | true => rfl
    | false =>
      have : mfindF tab 40 s.v key n 0 = none := (mfind_sg m key hkey s n 0).2 fun i _ hi => by
        cases h4 : sgEq s (m i) with
        | false => rfl
        | true =>
          rw [(inS_iff n m s).2 ⟨i, by omega, h4⟩] at h3
          cases h3
      rw [this] at h
      cases h

theorem res31 : Try.f31.results.toList = [.tmp 0] := rfl
theorem res33 : Try.f33.results.toList = [.tmp 4] := rfl
theorem res32 : Try.f32.results.toList = [.tmp 4] := rfl
theorem res35 : Try.f35.results.toList = [.tmp 2] := rfl
theorem one1 : ((1 : Int) == 1) = true := rfl
theorem zero1 : ((0 : Int) == 1) = false := rfl
theorem mp_good (k n : Nat) (m : Nat → Sg) (key : Nat → SV) (hkey : ∀ i, key i = (m i).v) (born : Nat → Nat) (clock : Nat) : (Chunk.map n key (fun _ => .int .i64 1) born clock).good k := fun i _ => by
  rw [hkey]
  exact ⟨by simp [Sg.v, ok, okL, sz], trivial⟩
set_option maxHeartbeats 4000000 in
/-- Issued, of a ledger with entries. -/
theorem c33m (s : Sg) (n : Nat) (m : Nat → Sg) (key : Nat → SV) (hkey : ∀ i, key i = (m i).v) (born : Nat → Nat) (clock : Nat) (b : Bool) (hb : inS n m s = b) (K : Tok → SV → List Chunk → Prop)
    (hK : K .mk (.bool b) [.cells true [.mp 1], .map n key (fun _ => .int .i64 1) born clock]) : callP Try.prog 33 [.ptr 0 0, .agg [.int .i64 s.a, .fam 32 1 fun i => .int .u8 (nat (s.D i))]] [.cells true [.mp 1], .map n key (fun _ => .int .i64 1) born clock] K := by
  refine callP_of_code tabOk Try.func33 (by kernel_rfl) rfl (Nat.le_of_ble_eq_true rfl) (codeP_of_vc (pl := pl33) tabOk follows_mixed (by kernel_rfl) ?_)
  rw [Try.ntmps33]
  have hks := keys_sg n m key hkey s
  have hkk := keyS_sg s
  have hm := mfind_has n m key hkey s
  rw [hb] at hm
  cases hf : mfind tab 40 s.v n key with
  | none =>
    rw [hf] at hm
    simp at hm
    subst hm
    simp only [Sg.v] at hf hks hkk
    simp -implicitDefEqProofs (maxSteps := 1000000) (disch := omega) only [↓vcB, ↓gd, ↓opP, ↓qv, ↓ef, ↓bslS, ↓stS, ↓mkS, ↓mupS, ↓appS, ↓s2bS, ↓resS, evB, Sx.look, slot, ↓lkL, putS, putO, argsL, ↓reduceIte, ofV, of1, lookH, putH, List.length_cons, List.length_nil, List.length_append, List.replicate, List.append, List.cons_append, List.nil_append, List.append_assoc, List.map_cons, List.map_nil, convS, fldA, nthT, idxA, idxS, fldS, oslN, bnd, slS, unS, valI, lenS, lookS, takeC, psB, asRow, csB, Int.toNat_natCast, Int.le_refl, and_self, rdF, Ent.row, ldS, sz, szL, wrF, bldF, plT, bldS, srcS, nilS, nilEq, binS2, structS, eqL, eqF, binS, arrS, isI, tupS, stor, storL, Value.oneCell', minS, maxS, capS, true_and, and_true, Nat.reduceAdd, Nat.reduceSub, Nat.reduceMul, Nat.reduceLT, Nat.reduceLeDiff, Nat.reduceEqDiff, Nat.reduceBEq, Int.reduceToNat, Int.reduceNeg, Nat.zero_add, Nat.add_zero, Nat.sub_self, Nat.sub_zero, Nat.zero_mul, Nat.mul_one, Nat.zero_le, if_true, if_false, reduceIte, stays, inL, same1, qn, ldN, convN, lenN, List.mem_cons, List.not_mem_nil, Option.map_some, Option.map_none, cond_true, cond_false, Sx.imp_true, Sx.imp_false, implies_true, Int.reduceEq, Int.reduceNe, Int.reduceLE, Int.reduceLT, decide_true, decide_false, List.zipIdx_cons, List.zipIdx_nil, or_false, false_or, forall_eq_or_imp, forall_eq, ne_eq, reduceCtorEq, not_false_eq_true, Bool.false_eq_true, Bool.true_eq_false, Bool.not_true, Bool.not_false, notInt, numB, tabB, Array.reduceGetElem?, upG, up, nth, lay, rcB, rnm, rnmL, wrB, pcB, hsB, Option.isNone, res33, pl33, hf, hks, hkk, zero1]
    exact intoR_take [.cells true [.mp 1], .map n key (fun _ => .int .i64 1) born clock] rfl rfl ⟨by simp [slot, lkL, fixed, rg, renH, chB, lookH, eqvL, eqv, eqvF, rnmL, rnm, liveN, lvB, goodH, gdB, okL, ok, sz, szL, storL, stor, renT, okT, pcB, hsB], mp_good _ n m key hkey born clock, trivial⟩ (by simp [slot, lkL, fixed, rg, renH, chB, lookH, eqvL, eqv, eqvF, rnmL, rnm, liveN, lvB, goodH, gdB, okL, ok, sz, szL, storL, stor, renT, okT, pcB, hsB]) hK
  | some i =>
    rw [hf] at hm
    simp at hm
    subst hm
    simp only [Sg.v] at hf hks hkk
    simp -implicitDefEqProofs (maxSteps := 1000000) (disch := omega) only [↓vcB, ↓gd, ↓opP, ↓qv, ↓ef, ↓bslS, ↓stS, ↓mkS, ↓mupS, ↓appS, ↓s2bS, ↓resS, evB, Sx.look, slot, ↓lkL, putS, putO, argsL, ↓reduceIte, ofV, of1, lookH, putH, List.length_cons, List.length_nil, List.length_append, List.replicate, List.append, List.cons_append, List.nil_append, List.append_assoc, List.map_cons, List.map_nil, convS, fldA, nthT, idxA, idxS, fldS, oslN, bnd, slS, unS, valI, lenS, lookS, takeC, psB, asRow, csB, Int.toNat_natCast, Int.le_refl, and_self, rdF, Ent.row, ldS, sz, szL, wrF, bldF, plT, bldS, srcS, nilS, nilEq, binS2, structS, eqL, eqF, binS, arrS, isI, tupS, stor, storL, Value.oneCell', minS, maxS, capS, true_and, and_true, Nat.reduceAdd, Nat.reduceSub, Nat.reduceMul, Nat.reduceLT, Nat.reduceLeDiff, Nat.reduceEqDiff, Nat.reduceBEq, Int.reduceToNat, Int.reduceNeg, Nat.zero_add, Nat.add_zero, Nat.sub_self, Nat.sub_zero, Nat.zero_mul, Nat.mul_one, Nat.zero_le, if_true, if_false, reduceIte, stays, inL, same1, qn, ldN, convN, lenN, List.mem_cons, List.not_mem_nil, Option.map_some, Option.map_none, cond_true, cond_false, Sx.imp_true, Sx.imp_false, implies_true, Int.reduceEq, Int.reduceNe, Int.reduceLE, Int.reduceLT, decide_true, decide_false, List.zipIdx_cons, List.zipIdx_nil, or_false, false_or, forall_eq_or_imp, forall_eq, ne_eq, reduceCtorEq, not_false_eq_true, Bool.false_eq_true, Bool.true_eq_false, Bool.not_true, Bool.not_false, notInt, numB, tabB, Array.reduceGetElem?, upG, up, nth, lay, rcB, rnm, rnmL, wrB, pcB, hsB, Option.isNone, res33, pl33, hf, hks, hkk, one1]
    exact intoR_take [.cells true [.mp 1], .map n key (fun _ => .int .i64 1) born clock] rfl rfl ⟨by simp [slot, lkL, fixed, rg, renH, chB, lookH, eqvL, eqv, eqvF, rnmL, rnm, liveN, lvB, goodH, gdB, okL, ok, sz, szL, storL, stor, renT, okT, pcB, hsB], mp_good _ n m key hkey born clock, trivial⟩ (by simp [slot, lkL, fixed, rg, renH, chB, lookH, eqvL, eqv, eqvF, rnmL, rnm, liveN, lvB, goodH, gdB, okL, ok, sz, szL, storL, stor, renT, okT, pcB, hsB]) hK
set_option maxHeartbeats 4000000 in
theorem c33n (s : Sg) (K : Tok → SV → List Chunk → Prop)
    (hK : K .mk (.bool false) [.cells true [.v (.map none)]]) : callP Try.prog 33 [.ptr 0 0, .agg [.int .i64 s.a, .fam 32 1 fun i => .int .u8 (nat (s.D i))]] [.cells true [.v (.map none)]] K := by
  refine callP_of_code tabOk Try.func33 (by kernel_rfl) rfl (Nat.le_of_ble_eq_true rfl) (codeP_of_vc (pl := pl33) tabOk follows_mixed (by kernel_rfl) ?_)
  rw [Try.ntmps33]
  have hf : True := trivial
  have hks : True := trivial
  have hkk := keyS_sg s
  simp only [Sg.v] at hkk
  simp -implicitDefEqProofs (maxSteps := 1000000) (disch := omega) only [↓vcB, ↓gd, ↓opP, ↓qv, ↓ef, ↓bslS, ↓stS, ↓mkS, ↓mupS, ↓appS, ↓s2bS, ↓resS, evB, Sx.look, slot, ↓lkL, putS, putO, argsL, ↓reduceIte, ofV, of1, lookH, putH, List.length_cons, List.length_nil, List.length_append, List.replicate, List.append, List.cons_append, List.nil_append, List.append_assoc, List.map_cons, List.map_nil, convS, fldA, nthT, idxA, idxS, fldS, oslN, bnd, slS, unS, valI, lenS, lookS, takeC, psB, asRow, csB, Int.toNat_natCast, Int.le_refl, and_self, rdF, Ent.row, ldS, sz, szL, wrF, bldF, plT, bldS, srcS, nilS, nilEq, binS2, structS, eqL, eqF, binS, arrS, isI, tupS, stor, storL, Value.oneCell', minS, maxS, capS, true_and, and_true, Nat.reduceAdd, Nat.reduceSub, Nat.reduceMul, Nat.reduceLT, Nat.reduceLeDiff, Nat.reduceEqDiff, Nat.reduceBEq, Int.reduceToNat, Int.reduceNeg, Nat.zero_add, Nat.add_zero, Nat.sub_self, Nat.sub_zero, Nat.zero_mul, Nat.mul_one, Nat.zero_le, if_true, if_false, reduceIte, stays, inL, same1, qn, ldN, convN, lenN, List.mem_cons, List.not_mem_nil, Option.map_some, Option.map_none, cond_true, cond_false, Sx.imp_true, Sx.imp_false, implies_true, Int.reduceEq, Int.reduceNe, Int.reduceLE, Int.reduceLT, decide_true, decide_false, List.zipIdx_cons, List.zipIdx_nil, or_false, false_or, forall_eq_or_imp, forall_eq, ne_eq, reduceCtorEq, not_false_eq_true, Bool.false_eq_true, Bool.true_eq_false, Bool.not_true, Bool.not_false, notInt, numB, tabB, Array.reduceGetElem?, upG, up, nth, lay, rcB, rnm, rnmL, wrB, pcB, hsB, Option.isNone, res33, pl33, hf, hks, hkk, zero1]
  exact intoR_take [.cells true [.v (.map none)]] rfl rfl (by simp [slot, lkL, fixed, rg, renH, chB, lookH, eqvL, eqv, eqvF, rnmL, rnm, liveN, lvB, goodH, gdB, okL, ok, sz, szL, storL, stor, renT, okT, pcB, hsB, Value.oneCell']) (by simp [slot, lkL, fixed, rg, renH, chB, lookH, eqvL, eqv, eqvF, rnmL, rnm, liveN, lvB, goodH, gdB, okL, ok, sz, szL, storL, stor, renT, okT, pcB, hsB]) hK
set_option maxHeartbeats 4000000 in
/-- Issue, where it was issued. -/
theorem c32p (s : Sg) (n : Nat) (m : Nat → Sg) (key : Nat → SV) (hkey : ∀ i, key i = (m i).v) (born : Nat → Nat) (clock : Nat) (hb : inS n m s = true) (K : Tok → SV → List Chunk → Prop)
    (hK : K .mk (.bool false) [.cells true [.mp 1], .map n key (fun _ => .int .i64 1) born clock]) : callP Try.prog 32 [.ptr 0 0, .agg [.int .i64 s.a, .fam 32 1 fun i => .int .u8 (nat (s.D i))]] [.cells true [.mp 1], .map n key (fun _ => .int .i64 1) born clock] K := by
  refine callP_of_code tabOk Try.func32 (by kernel_rfl) rfl (Nat.le_of_ble_eq_true rfl) (codeP_of_vc (pl := pl32) tabOk follows_mixed (by kernel_rfl) ?_)
  rw [Try.ntmps32]
  simp -implicitDefEqProofs (maxSteps := 1000000) (disch := omega) only [↓vcB, ↓gd, ↓opP, ↓qv, ↓ef, ↓bslS, ↓stS, ↓mkS, ↓mupS, ↓appS, ↓s2bS, ↓resS, evB, Sx.look, slot, ↓lkL, putS, putO, argsL, ↓reduceIte, ofV, of1, lookH, putH, List.length_cons, List.length_nil, List.length_append, List.replicate, List.append, List.cons_append, List.nil_append, List.append_assoc, List.map_cons, List.map_nil, convS, fldA, nthT, idxA, idxS, fldS, oslN, bnd, slS, unS, valI, lenS, lookS, takeC, psB, asRow, csB, Int.toNat_natCast, Int.le_refl, and_self, rdF, Ent.row, ldS, sz, szL, wrF, bldF, plT, bldS, srcS, nilS, nilEq, binS2, structS, eqL, eqF, binS, arrS, isI, tupS, stor, storL, Value.oneCell', minS, maxS, capS, true_and, and_true, Nat.reduceAdd, Nat.reduceSub, Nat.reduceMul, Nat.reduceLT, Nat.reduceLeDiff, Nat.reduceEqDiff, Nat.reduceBEq, Int.reduceToNat, Int.reduceNeg, Nat.zero_add, Nat.add_zero, Nat.sub_self, Nat.sub_zero, Nat.zero_mul, Nat.mul_one, Nat.zero_le, if_true, if_false, reduceIte, stays, inL, same1, qn, ldN, convN, lenN, List.mem_cons, List.not_mem_nil, Option.map_some, Option.map_none, cond_true, cond_false, Sx.imp_true, Sx.imp_false, implies_true, Int.reduceEq, Int.reduceNe, Int.reduceLE, Int.reduceLT, decide_true, decide_false, List.zipIdx_cons, List.zipIdx_nil, or_false, false_or, forall_eq_or_imp, forall_eq, ne_eq, reduceCtorEq, not_false_eq_true, Bool.false_eq_true, Bool.true_eq_false, Bool.not_true, Bool.not_false, notInt, numB, tabB, Array.reduceGetElem?, upG, up, nth, lay, rcB, rnm, rnmL, wrB, pcB, hsB, Option.isNone, res32]
  refine callP_frame (argsL := [.ptr 0 0, .agg [.int .i64 s.a, .fam 32 1 fun i => .int .u8 (nat (s.D i))]]) (KL := fun _ v h' => v = .bool true ∧ h' = [.cells true [.mp 1], .map n key (fun _ => .int .i64 1) born clock]) [0, 1] (c33m s n m key hkey born clock true hb _ ⟨rfl, rfl⟩) ?_ ?_ ?_ ?_ ?_ ?_
  · simp
  · simp [slot, lkL, fixed, rg, renH, chB, lookH, eqvL, eqv, eqvF, rnmL, rnm, liveN, lvB, goodH, gdB, okL, ok, sz, szL, storL, stor, renT, okT, has, upG, up, nth, roOk, keepsLive, wrB, lay, rcB, putH, pcB, hsB]
    exact fun i _ => by rw [hkey]; simp [Sg.v, eqv, eqvL, rnm, rnmL]
  · exact ⟨by simp [slot, lkL, fixed, rg, renH, chB, lookH, eqvL, eqv, eqvF, rnmL, rnm, liveN, lvB, goodH, gdB, okL, ok, sz, szL, storL, stor, renT, okT, has, upG, up, nth, roOk, keepsLive, wrB, lay, rcB, putH, pcB, hsB], mp_good _ n m key hkey born clock, trivial⟩
  · simp [slot, lkL, fixed, rg, renH, chB, lookH, eqvL, eqv, eqvF, rnmL, rnm, liveN, lvB, goodH, gdB, okL, ok, sz, szL, storL, stor, renT, okT, has, upG, up, nth, roOk, keepsLive, wrB, lay, rcB, putH, pcB, hsB]
  · simp [slot, lkL, fixed, rg, renH, chB, lookH, eqvL, eqv, eqvF, rnmL, rnm, liveN, lvB, goodH, gdB, okL, ok, sz, szL, storL, stor, renT, okT, has, upG, up, nth, roOk, keepsLive, wrB, lay, rcB, putH, pcB, hsB]
  · rintro v h' ⟨rfl, rfl⟩
    refine ⟨by simp [slot, lkL, fixed, rg, renH, chB, lookH, eqvL, eqv, eqvF, rnmL, rnm, liveN, lvB, goodH, gdB, okL, ok, sz, szL, storL, stor, renT, okT, has, upG, up, nth, roOk, keepsLive, wrB, lay, rcB, putH, pcB, hsB], by simp [slot, lkL, fixed, rg, renH, chB, lookH, eqvL, eqv, eqvF, rnmL, rnm, liveN, lvB, goodH, gdB, okL, ok, sz, szL, storL, stor, renT, okT, has, upG, up, nth, roOk, keepsLive, wrB, lay, rcB, putH, pcB, hsB], ?_⟩
    have hkr : ∀ g i, rnm g (key i) = key i := fun g i => by rw [hkey]; simp [Sg.v, rnm, rnmL]
    simp -implicitDefEqProofs (maxSteps := 1000000) (disch := omega) only [↓vcB, ↓gd, ↓opP, ↓qv, ↓ef, ↓bslS, ↓stS, ↓mkS, ↓mupS, ↓appS, ↓s2bS, ↓resS, evB, Sx.look, slot, ↓lkL, putS, putO, argsL, ↓reduceIte, ofV, of1, lookH, putH, List.length_cons, List.length_nil, List.length_append, List.replicate, List.append, List.cons_append, List.nil_append, List.append_assoc, List.map_cons, List.map_nil, convS, fldA, nthT, idxA, idxS, fldS, oslN, bnd, slS, unS, valI, lenS, lookS, takeC, psB, asRow, csB, Int.toNat_natCast, Int.le_refl, and_self, rdF, Ent.row, ldS, sz, szL, wrF, bldF, plT, bldS, srcS, nilS, nilEq, binS2, structS, eqL, eqF, binS, arrS, isI, tupS, stor, storL, Value.oneCell', minS, maxS, capS, true_and, and_true, Nat.reduceAdd, Nat.reduceSub, Nat.reduceMul, Nat.reduceLT, Nat.reduceLeDiff, Nat.reduceEqDiff, Nat.reduceBEq, Int.reduceToNat, Int.reduceNeg, Nat.zero_add, Nat.add_zero, Nat.sub_self, Nat.sub_zero, Nat.zero_mul, Nat.mul_one, Nat.zero_le, if_true, if_false, reduceIte, stays, inL, same1, qn, ldN, convN, lenN, List.mem_cons, List.not_mem_nil, Option.map_some, Option.map_none, cond_true, cond_false, Sx.imp_true, Sx.imp_false, implies_true, Int.reduceEq, Int.reduceNe, Int.reduceLE, Int.reduceLT, decide_true, decide_false, List.zipIdx_cons, List.zipIdx_nil, or_false, false_or, forall_eq_or_imp, forall_eq, ne_eq, reduceCtorEq, not_false_eq_true, Bool.false_eq_true, Bool.true_eq_false, Bool.not_true, Bool.not_false, notInt, numB, tabB, Array.reduceGetElem?, upG, up, nth, lay, rcB, rnm, rnmL, wrB, pcB, hsB, Option.isNone, res32, hkr]
    exact intoR_take [.cells true [.mp 1], .map n key (fun _ => .int .i64 1) born clock] rfl rfl ⟨by simp [slot, lkL, fixed, rg, renH, chB, lookH, eqvL, eqv, eqvF, rnmL, rnm, liveN, lvB, goodH, gdB, okL, ok, sz, szL, storL, stor, renT, okT, pcB, hsB], mp_good _ n m key hkey born clock, trivial⟩ (by simp [slot, lkL, fixed, rg, renH, chB, lookH, eqvL, eqv, eqvF, rnmL, rnm, liveN, lvB, goodH, gdB, okL, ok, sz, szL, storL, stor, renT, okT, pcB, hsB]) hK
set_option maxHeartbeats 4000000 in
/-- Issue, where it was not. -/
theorem c32a (s : Sg) (n : Nat) (m : Nat → Sg) (key : Nat → SV) (hkey : ∀ i, key i = (m i).v) (born : Nat → Nat) (clock : Nat) (hb : inS n m s = false) (K : Tok → SV → List Chunk → Prop)
    (hK : K .mk (.bool true) [.cells true [.mp 1], .map (n + 1) (fun j => if j < n then key j else s.v) (fun _ => .int .i64 1) (fun j => if j < n then born j else clock) (clock + 1)]) : callP Try.prog 32 [.ptr 0 0, .agg [.int .i64 s.a, .fam 32 1 fun i => .int .u8 (nat (s.D i))]] [.cells true [.mp 1], .map n key (fun _ => .int .i64 1) born clock] K := by
  refine callP_of_code tabOk Try.func32 (by kernel_rfl) rfl (Nat.le_of_ble_eq_true rfl) (codeP_of_vc (pl := pl32) tabOk follows_mixed (by kernel_rfl) ?_)
  rw [Try.ntmps32]
  simp -implicitDefEqProofs (maxSteps := 1000000) (disch := omega) only [↓vcB, ↓gd, ↓opP, ↓qv, ↓ef, ↓bslS, ↓stS, ↓mkS, ↓mupS, ↓appS, ↓s2bS, ↓resS, evB, Sx.look, slot, ↓lkL, putS, putO, argsL, ↓reduceIte, ofV, of1, lookH, putH, List.length_cons, List.length_nil, List.length_append, List.replicate, List.append, List.cons_append, List.nil_append, List.append_assoc, List.map_cons, List.map_nil, convS, fldA, nthT, idxA, idxS, fldS, oslN, bnd, slS, unS, valI, lenS, lookS, takeC, psB, asRow, csB, Int.toNat_natCast, Int.le_refl, and_self, rdF, Ent.row, ldS, sz, szL, wrF, bldF, plT, bldS, srcS, nilS, nilEq, binS2, structS, eqL, eqF, binS, arrS, isI, tupS, stor, storL, Value.oneCell', minS, maxS, capS, true_and, and_true, Nat.reduceAdd, Nat.reduceSub, Nat.reduceMul, Nat.reduceLT, Nat.reduceLeDiff, Nat.reduceEqDiff, Nat.reduceBEq, Int.reduceToNat, Int.reduceNeg, Nat.zero_add, Nat.add_zero, Nat.sub_self, Nat.sub_zero, Nat.zero_mul, Nat.mul_one, Nat.zero_le, if_true, if_false, reduceIte, stays, inL, same1, qn, ldN, convN, lenN, List.mem_cons, List.not_mem_nil, Option.map_some, Option.map_none, cond_true, cond_false, Sx.imp_true, Sx.imp_false, implies_true, Int.reduceEq, Int.reduceNe, Int.reduceLE, Int.reduceLT, decide_true, decide_false, List.zipIdx_cons, List.zipIdx_nil, or_false, false_or, forall_eq_or_imp, forall_eq, ne_eq, reduceCtorEq, not_false_eq_true, Bool.false_eq_true, Bool.true_eq_false, Bool.not_true, Bool.not_false, notInt, numB, tabB, Array.reduceGetElem?, upG, up, nth, lay, rcB, rnm, rnmL, wrB, pcB, hsB, Option.isNone, res32]
  refine callP_frame (argsL := [.ptr 0 0, .agg [.int .i64 s.a, .fam 32 1 fun i => .int .u8 (nat (s.D i))]]) (KL := fun _ v h' => v = .bool false ∧ h' = [.cells true [.mp 1], .map n key (fun _ => .int .i64 1) born clock]) [0, 1] (c33m s n m key hkey born clock false hb _ ⟨rfl, rfl⟩) ?_ ?_ ?_ ?_ ?_ ?_
  · simp
  · simp [slot, lkL, fixed, rg, renH, chB, lookH, eqvL, eqv, eqvF, rnmL, rnm, liveN, lvB, goodH, gdB, okL, ok, sz, szL, storL, stor, renT, okT, has, upG, up, nth, roOk, keepsLive, wrB, lay, rcB, putH, pcB, hsB]
    exact fun i _ => by rw [hkey]; simp [Sg.v, eqv, eqvL, rnm, rnmL]
  · exact ⟨by simp [slot, lkL, fixed, rg, renH, chB, lookH, eqvL, eqv, eqvF, rnmL, rnm, liveN, lvB, goodH, gdB, okL, ok, sz, szL, storL, stor, renT, okT, has, upG, up, nth, roOk, keepsLive, wrB, lay, rcB, putH, pcB, hsB], mp_good _ n m key hkey born clock, trivial⟩
  · simp [slot, lkL, fixed, rg, renH, chB, lookH, eqvL, eqv, eqvF, rnmL, rnm, liveN, lvB, goodH, gdB, okL, ok, sz, szL, storL, stor, renT, okT, has, upG, up, nth, roOk, keepsLive, wrB, lay, rcB, putH, pcB, hsB]
  · simp [slot, lkL, fixed, rg, renH, chB, lookH, eqvL, eqv, eqvF, rnmL, rnm, liveN, lvB, goodH, gdB, okL, ok, sz, szL, storL, stor, renT, okT, has, upG, up, nth, roOk, keepsLive, wrB, lay, rcB, putH, pcB, hsB]
  · rintro v h' ⟨rfl, rfl⟩
    refine ⟨by simp [slot, lkL, fixed, rg, renH, chB, lookH, eqvL, eqv, eqvF, rnmL, rnm, liveN, lvB, goodH, gdB, okL, ok, sz, szL, storL, stor, renT, okT, has, upG, up, nth, roOk, keepsLive, wrB, lay, rcB, putH, pcB, hsB], by simp [slot, lkL, fixed, rg, renH, chB, lookH, eqvL, eqv, eqvF, rnmL, rnm, liveN, lvB, goodH, gdB, okL, ok, sz, szL, storL, stor, renT, okT, has, upG, up, nth, roOk, keepsLive, wrB, lay, rcB, putH, pcB, hsB], ?_⟩
    have hkr : ∀ g i, rnm g (key i) = key i := fun g i => by rw [hkey]; simp [Sg.v, rnm, rnmL]
    have hks := keys_sg n m key hkey s
    have hkk := keyS_sg s
    have hm := mfind_has n m key hkey s
    rw [hb] at hm
    have hf : mfind tab 40 s.v n key = none := by simpa using hm
    simp only [Sg.v] at hf hks hkk
    simp -implicitDefEqProofs (maxSteps := 1000000) (disch := omega) only [↓vcB, ↓gd, ↓opP, ↓qv, ↓ef, ↓bslS, ↓stS, ↓mkS, ↓mupS, ↓appS, ↓s2bS, ↓resS, evB, Sx.look, slot, ↓lkL, putS, putO, argsL, ↓reduceIte, ofV, of1, lookH, putH, List.length_cons, List.length_nil, List.length_append, List.replicate, List.append, List.cons_append, List.nil_append, List.append_assoc, List.map_cons, List.map_nil, convS, fldA, nthT, idxA, idxS, fldS, oslN, bnd, slS, unS, valI, lenS, lookS, takeC, psB, asRow, csB, Int.toNat_natCast, Int.le_refl, and_self, rdF, Ent.row, ldS, sz, szL, wrF, bldF, plT, bldS, srcS, nilS, nilEq, binS2, structS, eqL, eqF, binS, arrS, isI, tupS, stor, storL, Value.oneCell', minS, maxS, capS, true_and, and_true, Nat.reduceAdd, Nat.reduceSub, Nat.reduceMul, Nat.reduceLT, Nat.reduceLeDiff, Nat.reduceEqDiff, Nat.reduceBEq, Int.reduceToNat, Int.reduceNeg, Nat.zero_add, Nat.add_zero, Nat.sub_self, Nat.sub_zero, Nat.zero_mul, Nat.mul_one, Nat.zero_le, if_true, if_false, reduceIte, stays, inL, same1, qn, ldN, convN, lenN, List.mem_cons, List.not_mem_nil, Option.map_some, Option.map_none, cond_true, cond_false, Sx.imp_true, Sx.imp_false, implies_true, Int.reduceEq, Int.reduceNe, Int.reduceLE, Int.reduceLT, decide_true, decide_false, List.zipIdx_cons, List.zipIdx_nil, or_false, false_or, forall_eq_or_imp, forall_eq, ne_eq, reduceCtorEq, not_false_eq_true, Bool.false_eq_true, Bool.true_eq_false, Bool.not_true, Bool.not_false, notInt, numB, tabB, Array.reduceGetElem?, upG, up, nth, lay, rcB, rnm, rnmL, wrB, pcB, hsB, Option.isNone, res32, pl32, hkr, hf, hks, hkk]
    refine intoR_mk [some 0, some 1] (.bool true) [.cells true [.mp 1], .map (n + 1) (fun j => if j < n then key j else s.v) (fun _ => .int .i64 1) (fun j => if j < n then born j else clock) (clock + 1)] ?_ ?_ ?_ ?_ ?_ ?_ ?_ hK
    · simp [slot, lkL, fixed, rg, renH, chB, lookH, eqvL, eqv, eqvF, rnmL, rnm, liveN, lvB, goodH, gdB, okL, ok, sz, szL, storL, stor, renT, okT, pcB, hsB]
    · simp [slot, lkL, fixed, rg, renH, chB, lookH, eqvL, eqv, eqvF, rnmL, rnm, liveN, lvB, goodH, gdB, okL, ok, sz, szL, storL, stor, renT, okT, pcB, hsB]
    · simp [slot, lkL, fixed, rg, renH, chB, lookH, eqvL, eqv, eqvF, rnmL, rnm, liveN, lvB, goodH, gdB, okL, ok, sz, szL, storL, stor, renT, okT, pcB, hsB]
      intro i hi
      by_cases h : i < n
      · simp [h, hkey, Sg.v, eqv, eqvL, rnm, rnmL]
      · simp [h, Sg.v, eqv, eqvL, rnm, rnmL]
    · simp [slot, lkL, fixed, rg, renH, chB, lookH, eqvL, eqv, eqvF, rnmL, rnm, liveN, lvB, goodH, gdB, okL, ok, sz, szL, storL, stor, renT, okT, pcB, hsB]
    · refine ⟨by simp [slot, lkL, fixed, rg, renH, chB, lookH, eqvL, eqv, eqvF, rnmL, rnm, liveN, lvB, goodH, gdB, okL, ok, sz, szL, storL, stor, renT, okT, pcB, hsB], fun i _ => ⟨?_, trivial⟩, trivial⟩
      show ok _ (if i < n then key i else s.v)
      split
      · rw [hkey]; simp [Sg.v, ok, okL, sz]
      · simp [Sg.v, ok, okL, sz]
    · simp [slot, lkL, fixed, rg, renH, chB, lookH, eqvL, eqv, eqvF, rnmL, rnm, liveN, lvB, goodH, gdB, okL, ok, sz, szL, storL, stor, renT, okT, pcB, hsB]
    · simp [slot, lkL, fixed, rg, renH, chB, lookH, eqvL, eqv, eqvF, rnmL, rnm, liveN, lvB, goodH, gdB, okL, ok, sz, szL, storL, stor, renT, okT, pcB, hsB]
set_option maxHeartbeats 4000000 in
/-- The first that is issued. -/
theorem c32n (s : Sg) (K : Tok → SV → List Chunk → Prop)
    (hK : K .mk (.bool true) [.cells true [.mp 1], .map 1 (fun _ => s.v) (fun _ => .int .i64 1) (fun _ => 0) 1]) : callP Try.prog 32 [.ptr 0 0, .agg [.int .i64 s.a, .fam 32 1 fun i => .int .u8 (nat (s.D i))]] [.cells true [.v (.map none)]] K := by
  refine callP_of_code tabOk Try.func32 (by kernel_rfl) rfl (Nat.le_of_ble_eq_true rfl) (codeP_of_vc (pl := pl32) tabOk follows_mixed (by kernel_rfl) ?_)
  rw [Try.ntmps32]
  simp -implicitDefEqProofs (maxSteps := 1000000) (disch := omega) only [↓vcB, ↓gd, ↓opP, ↓qv, ↓ef, ↓bslS, ↓stS, ↓mkS, ↓mupS, ↓appS, ↓s2bS, ↓resS, evB, Sx.look, slot, ↓lkL, putS, putO, argsL, ↓reduceIte, ofV, of1, lookH, putH, List.length_cons, List.length_nil, List.length_append, List.replicate, List.append, List.cons_append, List.nil_append, List.append_assoc, List.map_cons, List.map_nil, convS, fldA, nthT, idxA, idxS, fldS, oslN, bnd, slS, unS, valI, lenS, lookS, takeC, psB, asRow, csB, Int.toNat_natCast, Int.le_refl, and_self, rdF, Ent.row, ldS, sz, szL, wrF, bldF, plT, bldS, srcS, nilS, nilEq, binS2, structS, eqL, eqF, binS, arrS, isI, tupS, stor, storL, Value.oneCell', minS, maxS, capS, true_and, and_true, Nat.reduceAdd, Nat.reduceSub, Nat.reduceMul, Nat.reduceLT, Nat.reduceLeDiff, Nat.reduceEqDiff, Nat.reduceBEq, Int.reduceToNat, Int.reduceNeg, Nat.zero_add, Nat.add_zero, Nat.sub_self, Nat.sub_zero, Nat.zero_mul, Nat.mul_one, Nat.zero_le, if_true, if_false, reduceIte, stays, inL, same1, qn, ldN, convN, lenN, List.mem_cons, List.not_mem_nil, Option.map_some, Option.map_none, cond_true, cond_false, Sx.imp_true, Sx.imp_false, implies_true, Int.reduceEq, Int.reduceNe, Int.reduceLE, Int.reduceLT, decide_true, decide_false, List.zipIdx_cons, List.zipIdx_nil, or_false, false_or, forall_eq_or_imp, forall_eq, ne_eq, reduceCtorEq, not_false_eq_true, Bool.false_eq_true, Bool.true_eq_false, Bool.not_true, Bool.not_false, notInt, numB, tabB, Array.reduceGetElem?, upG, up, nth, lay, rcB, rnm, rnmL, wrB, pcB, hsB, Option.isNone, res32]
  refine callP_frame (argsL := [.ptr 0 0, .agg [.int .i64 s.a, .fam 32 1 fun i => .int .u8 (nat (s.D i))]]) (KL := fun _ v h' => v = .bool false ∧ h' = [.cells true [.v (.map none)]]) [0] (c33n s _ ⟨rfl, rfl⟩) ?_ ?_ ?_ ?_ ?_ ?_
  · simp
  · simp [slot, lkL, fixed, rg, renH, chB, lookH, eqvL, eqv, eqvF, rnmL, rnm, liveN, lvB, goodH, gdB, okL, ok, sz, szL, storL, stor, renT, okT, has, upG, up, nth, roOk, keepsLive, wrB, lay, rcB, putH, pcB, hsB]
  · simp [slot, lkL, fixed, rg, renH, chB, lookH, eqvL, eqv, eqvF, rnmL, rnm, liveN, lvB, goodH, gdB, okL, ok, sz, szL, storL, stor, renT, okT, has, upG, up, nth, roOk, keepsLive, wrB, lay, rcB, putH, pcB, hsB, Value.oneCell']
  · simp [slot, lkL, fixed, rg, renH, chB, lookH, eqvL, eqv, eqvF, rnmL, rnm, liveN, lvB, goodH, gdB, okL, ok, sz, szL, storL, stor, renT, okT, has, upG, up, nth, roOk, keepsLive, wrB, lay, rcB, putH, pcB, hsB]
  · simp [slot, lkL, fixed, rg, renH, chB, lookH, eqvL, eqv, eqvF, rnmL, rnm, liveN, lvB, goodH, gdB, okL, ok, sz, szL, storL, stor, renT, okT, has, upG, up, nth, roOk, keepsLive, wrB, lay, rcB, putH, pcB, hsB]
  · rintro v h' ⟨rfl, rfl⟩
    refine ⟨by simp [slot, lkL, fixed, rg, renH, chB, lookH, eqvL, eqv, eqvF, rnmL, rnm, liveN, lvB, goodH, gdB, okL, ok, sz, szL, storL, stor, renT, okT, has, upG, up, nth, roOk, keepsLive, wrB, lay, rcB, putH, pcB, hsB], by simp [slot, lkL, fixed, rg, renH, chB, lookH, eqvL, eqv, eqvF, rnmL, rnm, liveN, lvB, goodH, gdB, okL, ok, sz, szL, storL, stor, renT, okT, has, upG, up, nth, roOk, keepsLive, wrB, lay, rcB, putH, pcB, hsB], ?_⟩
    have hks : keysS tab 40 s.v 0 (fun _ => .tup []) := fun i hi => absurd hi (Nat.not_lt_zero _)
    have hkk := keyS_sg s
    have hf : mfind tab 40 s.v 0 (fun _ => .tup []) = none := rfl
    simp only [Sg.v] at hf hks hkk
    have hmc : (Value.map none).cells.size = 1 := rfl
    simp -implicitDefEqProofs (maxSteps := 1000000) (disch := omega) only [↓vcB, ↓gd, ↓opP, ↓qv, ↓ef, ↓bslS, ↓stS, ↓mkS, ↓mupS, ↓appS, ↓s2bS, ↓resS, evB, Sx.look, slot, ↓lkL, putS, putO, argsL, ↓reduceIte, ofV, of1, lookH, putH, List.length_cons, List.length_nil, List.length_append, List.replicate, List.append, List.cons_append, List.nil_append, List.append_assoc, List.map_cons, List.map_nil, convS, fldA, nthT, idxA, idxS, fldS, oslN, bnd, slS, unS, valI, lenS, lookS, takeC, psB, asRow, csB, Int.toNat_natCast, Int.le_refl, and_self, rdF, Ent.row, ldS, sz, szL, wrF, bldF, plT, bldS, srcS, nilS, nilEq, binS2, structS, eqL, eqF, binS, arrS, isI, tupS, stor, storL, Value.oneCell', minS, maxS, capS, true_and, and_true, Nat.reduceAdd, Nat.reduceSub, Nat.reduceMul, Nat.reduceLT, Nat.reduceLeDiff, Nat.reduceEqDiff, Nat.reduceBEq, Int.reduceToNat, Int.reduceNeg, Nat.zero_add, Nat.add_zero, Nat.sub_self, Nat.sub_zero, Nat.zero_mul, Nat.mul_one, Nat.zero_le, if_true, if_false, reduceIte, stays, inL, same1, qn, ldN, convN, lenN, List.mem_cons, List.not_mem_nil, Option.map_some, Option.map_none, cond_true, cond_false, Sx.imp_true, Sx.imp_false, implies_true, Int.reduceEq, Int.reduceNe, Int.reduceLE, Int.reduceLT, decide_true, decide_false, List.zipIdx_cons, List.zipIdx_nil, or_false, false_or, forall_eq_or_imp, forall_eq, ne_eq, reduceCtorEq, not_false_eq_true, Bool.false_eq_true, Bool.true_eq_false, Bool.not_true, Bool.not_false, notInt, numB, tabB, Array.reduceGetElem?, upG, up, nth, lay, rcB, rnm, rnmL, wrB, pcB, hsB, Option.isNone, res32, pl32, hf, hks, hkk, Nat.not_lt_zero, hmc, Nat.le_refl]
    refine intoR_mk [some 0, some 2] (.bool true) [.cells true [.mp 1], .map 1 (fun _ => s.v) (fun _ => .int .i64 1) (fun _ => 0) 1] ?_ ?_ ?_ ?_ ?_ ?_ ?_ hK
    · simp [slot, lkL, fixed, rg, renH, chB, lookH, eqvL, eqv, eqvF, rnmL, rnm, liveN, lvB, goodH, gdB, okL, ok, sz, szL, storL, stor, renT, okT, pcB, hsB]
    · simp [slot, lkL, fixed, rg, renH, chB, lookH, eqvL, eqv, eqvF, rnmL, rnm, liveN, lvB, goodH, gdB, okL, ok, sz, szL, storL, stor, renT, okT, pcB, hsB]
    · simp [slot, lkL, fixed, rg, renH, chB, lookH, eqvL, eqv, eqvF, rnmL, rnm, liveN, lvB, goodH, gdB, okL, ok, sz, szL, storL, stor, renT, okT, pcB, hsB]
      simp [Sg.v, eqv, eqvL, rnm, rnmL]
    · simp [slot, lkL, fixed, rg, renH, chB, lookH, eqvL, eqv, eqvF, rnmL, rnm, liveN, lvB, goodH, gdB, okL, ok, sz, szL, storL, stor, renT, okT, pcB, hsB]
    · exact ⟨by simp [slot, lkL, fixed, rg, renH, chB, lookH, eqvL, eqv, eqvF, rnmL, rnm, liveN, lvB, goodH, gdB, okL, ok, sz, szL, storL, stor, renT, okT, pcB, hsB], fun i _ => ⟨by simp [Sg.v, ok, okL, sz], trivial⟩, trivial⟩
    · simp [slot, lkL, fixed, rg, renH, chB, lookH, eqvL, eqv, eqvF, rnmL, rnm, liveN, lvB, goodH, gdB, okL, ok, sz, szL, storL, stor, renT, okT, pcB, hsB]
    · simp [slot, lkL, fixed, rg, renH, chB, lookH, eqvL, eqv, eqvF, rnmL, rnm, liveN, lvB, goodH, gdB, okL, ok, sz, szL, storL, stor, renT, okT, pcB, hsB]
set_option maxHeartbeats 4000000 in
theorem c31l (K : Tok → SV → List Chunk → Prop) (hK : K .mk (.ptr 0 0) [.cells true [.v (.map none)]]) : callP Try.prog 31 [] [] K := by
  refine callP_of_code tabOk Try.func31 (by kernel_rfl) rfl (Nat.le_of_ble_eq_true rfl) (codeP_of_vc (pl := np) tabOk follows_mixed (by kernel_rfl) ?_)
  rw [Try.ntmps31]
  simp -implicitDefEqProofs (maxSteps := 1000000) (disch := omega) only [↓vcB, ↓gd, ↓opP, ↓qv, ↓ef, ↓bslS, ↓stS, ↓mkS, ↓mupS, ↓appS, ↓s2bS, ↓resS, evB, Sx.look, slot, ↓lkL, putS, putO, argsL, ↓reduceIte, ofV, of1, lookH, putH, List.length_cons, List.length_nil, List.length_append, List.replicate, List.append, List.cons_append, List.nil_append, List.append_assoc, List.map_cons, List.map_nil, convS, fldA, nthT, idxA, idxS, fldS, oslN, bnd, slS, unS, valI, lenS, lookS, takeC, psB, asRow, csB, Int.toNat_natCast, Int.le_refl, and_self, rdF, Ent.row, ldS, sz, szL, wrF, bldF, plT, bldS, srcS, nilS, nilEq, binS2, structS, eqL, eqF, binS, arrS, isI, tupS, stor, storL, Value.oneCell', minS, maxS, capS, true_and, and_true, Nat.reduceAdd, Nat.reduceSub, Nat.reduceMul, Nat.reduceLT, Nat.reduceLeDiff, Nat.reduceEqDiff, Nat.reduceBEq, Int.reduceToNat, Int.reduceNeg, Nat.zero_add, Nat.add_zero, Nat.sub_self, Nat.sub_zero, Nat.zero_mul, Nat.mul_one, Nat.zero_le, if_true, if_false, reduceIte, stays, inL, same1, qn, ldN, convN, lenN, List.mem_cons, List.not_mem_nil, Option.map_some, Option.map_none, cond_true, cond_false, Sx.imp_true, Sx.imp_false, implies_true, Int.reduceEq, Int.reduceNe, Int.reduceLE, Int.reduceLT, decide_true, decide_false, List.zipIdx_cons, List.zipIdx_nil, or_false, false_or, forall_eq_or_imp, forall_eq, ne_eq, reduceCtorEq, not_false_eq_true, Bool.false_eq_true, Bool.true_eq_false, Bool.not_true, Bool.not_false, notInt, numB, tabB, Array.reduceGetElem?, upG, up, nth, lay, rcB, rnm, rnmL, wrB, pcB, hsB, Option.isNone, res31]
  exact intoR_refl (by simp) hK
theorem c35m (n : Nat) (m : Nat → Sg) (key : Nat → SV) (hkey : ∀ i, key i = (m i).v) (born : Nat → Nat) (clock : Nat) (K : Tok → SV → List Chunk → Prop)
    (hK : K .mk (.int .i64 (n : Nat)) [.cells true [.mp 1], .map n key (fun _ => .int .i64 1) born clock]) : callP Try.prog 35 [.ptr 0 0] [.cells true [.mp 1], .map n key (fun _ => .int .i64 1) born clock] K := by
  refine callP_of_code tabOk Try.func35 (by kernel_rfl) rfl (Nat.le_of_ble_eq_true rfl) (codeP_of_vc (pl := np) tabOk follows_mixed (by kernel_rfl) ?_)
  rw [Try.ntmps35]
  simp -implicitDefEqProofs (maxSteps := 1000000) (disch := omega) only [↓vcB, ↓gd, ↓opP, ↓qv, ↓ef, ↓bslS, ↓stS, ↓mkS, ↓mupS, ↓appS, ↓s2bS, ↓resS, evB, Sx.look, slot, ↓lkL, putS, putO, argsL, ↓reduceIte, ofV, of1, lookH, putH, List.length_cons, List.length_nil, List.length_append, List.replicate, List.append, List.cons_append, List.nil_append, List.append_assoc, List.map_cons, List.map_nil, convS, fldA, nthT, idxA, idxS, fldS, oslN, bnd, slS, unS, valI, lenS, lookS, takeC, psB, asRow, csB, Int.toNat_natCast, Int.le_refl, and_self, rdF, Ent.row, ldS, sz, szL, wrF, bldF, plT, bldS, srcS, nilS, nilEq, binS2, structS, eqL, eqF, binS, arrS, isI, tupS, stor, storL, Value.oneCell', minS, maxS, capS, true_and, and_true, Nat.reduceAdd, Nat.reduceSub, Nat.reduceMul, Nat.reduceLT, Nat.reduceLeDiff, Nat.reduceEqDiff, Nat.reduceBEq, Int.reduceToNat, Int.reduceNeg, Nat.zero_add, Nat.add_zero, Nat.sub_self, Nat.sub_zero, Nat.zero_mul, Nat.mul_one, Nat.zero_le, if_true, if_false, reduceIte, stays, inL, same1, qn, ldN, convN, lenN, List.mem_cons, List.not_mem_nil, Option.map_some, Option.map_none, cond_true, cond_false, Sx.imp_true, Sx.imp_false, implies_true, Int.reduceEq, Int.reduceNe, Int.reduceLE, Int.reduceLT, decide_true, decide_false, List.zipIdx_cons, List.zipIdx_nil, or_false, false_or, forall_eq_or_imp, forall_eq, ne_eq, reduceCtorEq, not_false_eq_true, Bool.false_eq_true, Bool.true_eq_false, Bool.not_true, Bool.not_false, notInt, numB, tabB, Array.reduceGetElem?, upG, up, nth, lay, rcB, rnm, rnmL, wrB, pcB, hsB, Option.isNone, res35]
  exact intoR_refl (by simp) hK
theorem c35z (K : Tok → SV → List Chunk → Prop)
    (hK : K .mk (.int .i64 0) [.cells true [.v (.map none)]]) : callP Try.prog 35 [.ptr 0 0] [.cells true [.v (.map none)]] K := by
  refine callP_of_code tabOk Try.func35 (by kernel_rfl) rfl (Nat.le_of_ble_eq_true rfl) (codeP_of_vc (pl := np) tabOk follows_mixed (by kernel_rfl) ?_)
  rw [Try.ntmps35]
  simp -implicitDefEqProofs (maxSteps := 1000000) (disch := omega) only [↓vcB, ↓gd, ↓opP, ↓qv, ↓ef, ↓bslS, ↓stS, ↓mkS, ↓mupS, ↓appS, ↓s2bS, ↓resS, evB, Sx.look, slot, ↓lkL, putS, putO, argsL, ↓reduceIte, ofV, of1, lookH, putH, List.length_cons, List.length_nil, List.length_append, List.replicate, List.append, List.cons_append, List.nil_append, List.append_assoc, List.map_cons, List.map_nil, convS, fldA, nthT, idxA, idxS, fldS, oslN, bnd, slS, unS, valI, lenS, lookS, takeC, psB, asRow, csB, Int.toNat_natCast, Int.le_refl, and_self, rdF, Ent.row, ldS, sz, szL, wrF, bldF, plT, bldS, srcS, nilS, nilEq, binS2, structS, eqL, eqF, binS, arrS, isI, tupS, stor, storL, Value.oneCell', minS, maxS, capS, true_and, and_true, Nat.reduceAdd, Nat.reduceSub, Nat.reduceMul, Nat.reduceLT, Nat.reduceLeDiff, Nat.reduceEqDiff, Nat.reduceBEq, Int.reduceToNat, Int.reduceNeg, Nat.zero_add, Nat.add_zero, Nat.sub_self, Nat.sub_zero, Nat.zero_mul, Nat.mul_one, Nat.zero_le, if_true, if_false, reduceIte, stays, inL, same1, qn, ldN, convN, lenN, List.mem_cons, List.not_mem_nil, Option.map_some, Option.map_none, cond_true, cond_false, Sx.imp_true, Sx.imp_false, implies_true, Int.reduceEq, Int.reduceNe, Int.reduceLE, Int.reduceLT, decide_true, decide_false, List.zipIdx_cons, List.zipIdx_nil, or_false, false_or, forall_eq_or_imp, forall_eq, ne_eq, reduceCtorEq, not_false_eq_true, Bool.false_eq_true, Bool.true_eq_false, Bool.not_true, Bool.not_false, notInt, numB, tabB, Array.reduceGetElem?, upG, up, nth, lay, rcB, rnm, rnmL, wrB, pcB, hsB, Option.isNone, res35]
  exact intoR_refl (by simp) hK
end Go.Proofs.Ytbjelfgclhmedaa
