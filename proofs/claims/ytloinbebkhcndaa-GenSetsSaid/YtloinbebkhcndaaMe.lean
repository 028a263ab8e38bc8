/- Texts put together: Contracts of functions that the laws reach, by the symbolic executor of the texts Sxa to Syg. No condition. -/
import Derived.Test.YtloinbebkhcndaaMd
import Derived.Test.YtloinbebkhcndaaMc
set_option linter.all false
set_option maxRecDepth 40000
namespace Go.Proofs.Ytloinbebkhcndaa
open Go Go.Sx

theorem map_getD {α : Type} [Inhabited α] (L : List α) : ((List.range L.length).map fun i => L.getD i default) = L := by
  apply List.ext_getElem?
  intro i
  rw [List.getElem?_map]
  rcases Nat.lt_or_ge i L.length with hi | hi
  · rw [List.getElem?_range hi, List.getElem?_eq_getElem hi]
    simp [List.getD_eq_getElem?_getD, List.getElem?_eq_getElem hi]
  · rw [List.getElem?_eq_none (by simpa using hi), List.getElem?_eq_none hi]
    rfl

theorem res110 : Try.f110.results.toList = [] := rfl
/-- maps.Keys: the keys, in some order. -/
theorem gives110 (n : Nat) (ks : Nat → List UInt8) (val : Nat → Value) (born : Nat → Nat) (clock : Nat) (hb : Bn n born clock) {ρ : Env} {B : Nat → Prop} {w0 : World} (hB : ∀ b, B b → b < w0.heap.size) (hH : ∀ k c, [Chunk.cells false [.mp 1], .rmap n (fun i => .str ⟨⟨ks i⟩⟩) (fun i => .v (val i)) born clock][k]? = some c → Holds ρ w0 k c ∧ (Real ρ k c → B (ρ k).b)) :
    GivesR Try.prog 110 (denL ρ [.ptr 0 0]) B (keyR n (fun j => den (fun _ => ⟨0, 0, 0, true⟩) (.str ⟨⟨ks j⟩⟩))) (keyF n) w0 := by
  refine givesR_of_codeY (P := Pr.of Try.prog) tabOk Try.func110 (by kernel_rfl) rfl res110 (h0 := [Chunk.cells false [.mp 1], .rmap n (fun i => .str ⟨⟨ks i⟩⟩) (fun i => .v (val i)) born clock]) (Nat.le_of_ble_eq_true rfl) ?_ (by simp [okL, ok]) (by simp [Chunk.wr]) (fun l => ?_) hB hH (fun _ _ _ => trivial) (fv := .nilFunc) (fx := fun _ => none) (nofx _)
  · exact ⟨by simp [slot, lkL, fixed, rg, renH, chB, lookH, eqvL, eqv, eqvF, rnmL, rnm, liveN, lvB, goodH, gdB, okL, ok, sz, szL, storL, stor, renT, okT, pcB], fun i hi => ⟨trivial, trivial⟩, trivial⟩
  refine codeY_of_vc (pl := np) tabOk follows_mixed (by kernel_rfl) ?_
  rw [Try.ntmps110]
  simp -implicitDefEqProofs (maxSteps := 1000000) (disch := omega) only [↓vcB, ↓gd, ↓opP, ↓qv, ↓ef, ↓bslS, ↓stS, ↓mkS, ↓rangeS, ↓nextS, ↓entryS, ↓delS, ↓mupS, ↓appS, ↓s2bS, ↓resS, evB, Sx.look, slot, ↓lkL, putS, putO, argsL, ↓reduceIte, ofV, of1, lookH, putH, List.length_cons, List.length_nil, List.length_append, List.replicate, List.append, List.cons_append, List.nil_append, List.append_assoc, List.map_cons, List.map_nil, convS, fldA, nthT, idxA, idxS, fldS, oslN, bnd, slS, unS, valI, lenS, lookS, takeC, psB, asRow, csB, Int.toNat_natCast, Int.le_refl, and_self, rdF, Ent.row, ldS, sz, szL, wrF, bldF, plT, bldS, srcS, nilS, nilEq, mapC, binH, binS2, structS, eqL, eqF, binS, arrS, isI, tupS, stor, storL, Value.oneCell', minS, maxS, capS, true_and, and_true, Nat.reduceAdd, Nat.reduceSub, Nat.reduceMul, Nat.reduceLT, Nat.reduceLeDiff, Nat.reduceEqDiff, Nat.reduceBEq, Int.reduceToNat, Int.reduceNeg, Nat.zero_add, Nat.add_zero, Nat.sub_self, Nat.sub_zero, Nat.zero_mul, Nat.mul_one, Nat.zero_le, if_true, if_false, reduceIte, stays, inL, same1, qn, ldN, convN, lenN, List.mem_cons, List.not_mem_nil, Option.map_some, Option.map_none, cond_true, cond_false, Sx.imp_true, Sx.imp_false, implies_true, Int.reduceEq, Int.reduceNe, Int.reduceLE, Int.reduceLT, decide_true, decide_false, List.zipIdx_cons, List.zipIdx_nil, or_false, false_or, forall_eq_or_imp, forall_eq, ne_eq, reduceCtorEq, not_false_eq_true, Bool.false_eq_true, Bool.true_eq_false, Bool.not_true, Bool.not_false, notInt, numB, tabB, ↓vyB, ↓opY, roA, liveA, lvB, frz, frz1, true_or, Array.reduceGetElem?, upG, up, nth, lay, rcB, rnm, rnmL, wrB, pcB]
  refine codeY_loop (pl := np) tabOk follows_mixed (by kernel_rfl) (fun x g t h => ∃ (p : List Nat) (j : Nat → Value), Pl n p ∧ p.length + x = n ∧ g = .run (cd n p) ∧ t = ⟨14, [(0, .v (.func (.yield l) #[] #[])), (5, .ptr 2 0)], j⟩ ∧ h = [.cells false [.mp 1], .rmap n (fun i => .str ⟨⟨ks i⟩⟩) (fun i => .v (val i)) born clock, .iter (.mp 1) clock (p.map born).reverse clock]) ?_ ?_
  · intro d
    refine into_mk [some 0, some 1, some 2] [(0, .v (.func (.yield l) #[] #[])), (5, .ptr 2 0)] [.cells false [.mp 1], .rmap n (fun i => .str ⟨⟨ks i⟩⟩) (fun i => .v (val i)) born clock, .iter (.mp 1) clock [] clock] ?_ ?_ ?_ ?_ ?_ ?_ ?_ fun j => ⟨rfl, n, [], j, Pl.nil n, by simp, rfl, rfl, rfl⟩
    · simp [slot, lkL, fixed, rg, renH, chEq, lookH, eqvL, eqv, eqvF, rnmL, rnm, liveN, Chunk.live, goodH, Chunk.good, okL, ok, sz, szL, storL, stor, renT, okT]
    · simp [slot, lkL, fixed, rg, renH, chEq, lookH, eqvL, eqv, eqvF, rnmL, rnm, liveN, Chunk.live, goodH, Chunk.good, okL, ok, sz, szL, storL, stor, renT, okT]
    · simp [slot, lkL, fixed, rg, renH, chB, lookH, eqvL, eqv, eqvF, rnmL, rnm, liveN, lvB, goodH, gdB, okL, ok, sz, szL, storL, stor, renT, okT, pcB]
    · simp [slot, lkL, fixed, rg, renH, chEq, lookH, eqvL, eqv, eqvF, rnmL, rnm, liveN, Chunk.live, goodH, Chunk.good, okL, ok, sz, szL, storL, stor, renT, okT]
    · simp [slot, lkL, fixed, rg, renH, chB, lookH, eqvL, eqv, eqvF, rnmL, rnm, liveN, lvB, goodH, gdB, okL, ok, sz, szL, storL, stor, renT, okT, pcB]
    · simp [slot, lkL, fixed, rg, renH, chEq, lookH, eqvL, eqv, eqvF, rnmL, rnm, liveN, Chunk.live, goodH, Chunk.good, okL, ok, sz, szL, storL, stor, renT, okT]
    · simp [slot, lkL, fixed, rg, renH, chEq, lookH, eqvL, eqv, eqvF, rnmL, rnm, liveN, Chunk.live, goodH, Chunk.good, okL, ok, sz, szL, storL, stor, renT, okT]
  · rintro x g t h ⟨p, j, hp, hx, rfl, rfl, rfl⟩
    simp -implicitDefEqProofs (maxSteps := 1000000) (disch := omega) only [↓vcB, ↓gd, ↓opP, ↓qv, ↓ef, ↓bslS, ↓stS, ↓mkS, ↓rangeS, ↓nextS, ↓entryS, ↓delS, ↓mupS, ↓appS, ↓s2bS, ↓resS, evB, Sx.look, slot, ↓lkL, putS, putO, argsL, ↓reduceIte, ofV, of1, lookH, putH, List.length_cons, List.length_nil, List.length_append, List.replicate, List.append, List.cons_append, List.nil_append, List.append_assoc, List.map_cons, List.map_nil, convS, fldA, nthT, idxA, idxS, fldS, oslN, bnd, slS, unS, valI, lenS, lookS, takeC, psB, asRow, csB, Int.toNat_natCast, Int.le_refl, and_self, rdF, Ent.row, ldS, sz, szL, wrF, bldF, plT, bldS, srcS, nilS, nilEq, mapC, binH, binS2, structS, eqL, eqF, binS, arrS, isI, tupS, stor, storL, Value.oneCell', minS, maxS, capS, true_and, and_true, Nat.reduceAdd, Nat.reduceSub, Nat.reduceMul, Nat.reduceLT, Nat.reduceLeDiff, Nat.reduceEqDiff, Nat.reduceBEq, Int.reduceToNat, Int.reduceNeg, Nat.zero_add, Nat.add_zero, Nat.sub_self, Nat.sub_zero, Nat.zero_mul, Nat.mul_one, Nat.zero_le, if_true, if_false, reduceIte, stays, inL, same1, qn, ldN, convN, lenN, List.mem_cons, List.not_mem_nil, Option.map_some, Option.map_none, cond_true, cond_false, Sx.imp_true, Sx.imp_false, implies_true, Int.reduceEq, Int.reduceNe, Int.reduceLE, Int.reduceLT, decide_true, decide_false, List.zipIdx_cons, List.zipIdx_nil, or_false, false_or, forall_eq_or_imp, forall_eq, ne_eq, reduceCtorEq, not_false_eq_true, Bool.false_eq_true, Bool.true_eq_false, Bool.not_true, Bool.not_false, notInt, numB, tabB, ↓vyB, ↓opY, roA, liveA, lvB, frz, frz1, true_or, Array.reduceGetElem?, upG, up, nth, lay, rcB, rnm, rnmL, wrB, pcB]
    refine ⟨⟨hb.1, Nat.le_refl _⟩, fun j hj hnj => ⟨j, _, hj, rfl, hb.2, cd n (j :: p), fun ρ => ⟨p, j, hp, hj, fun h => hnj (List.mem_reverse.2 (List.mem_map.2 ⟨j, h, rfl⟩)), rfl, rfl, rfl⟩, ?_, .inr ⟨_, trivial, rfl⟩⟩, fun hall => .inl ⟨_, ⟨p, hp, hp.full fun j hj => ?_, rfl⟩, rfl⟩⟩
    · have hjp : j ∉ p := fun h => hnj (List.mem_reverse.2 (List.mem_map.2 ⟨j, h, rfl⟩))
      have hle := (hp.cons hj hjp).le
      simp only [List.length_cons] at hle
      intro d
      refine into_mk [some 0, some 1, some 2] [(0, .v (.func (.yield l) #[] #[])), (5, .ptr 2 0)] [.cells false [.mp 1], .rmap n (fun i => .str ⟨⟨ks i⟩⟩) (fun i => .v (val i)) born clock, .iter (.mp 1) clock ((j :: p).map born).reverse clock] ?_ ?_ ?_ ?_ ?_ ?_ ?_ fun j' => ⟨rfl, x - 1, by omega, j :: p, j', hp.cons hj hjp, by simp only [List.length_cons]; omega, rfl, rfl, rfl⟩
      · simp [slot, lkL, fixed, rg, renH, chEq, lookH, eqvL, eqv, eqvF, rnmL, rnm, liveN, Chunk.live, goodH, Chunk.good, okL, ok, sz, szL, storL, stor, renT, okT]
      · simp [slot, lkL, fixed, rg, renH, chEq, lookH, eqvL, eqv, eqvF, rnmL, rnm, liveN, Chunk.live, goodH, Chunk.good, okL, ok, sz, szL, storL, stor, renT, okT]
      · simp [slot, lkL, fixed, rg, renH, chB, lookH, eqvL, eqv, eqvF, rnmL, rnm, liveN, lvB, goodH, gdB, okL, ok, sz, szL, storL, stor, renT, okT, pcB]
      · simp [slot, lkL, fixed, rg, renH, chEq, lookH, eqvL, eqv, eqvF, rnmL, rnm, liveN, Chunk.live, goodH, Chunk.good, okL, ok, sz, szL, storL, stor, renT, okT]
      · simp [slot, lkL, fixed, rg, renH, chB, lookH, eqvL, eqv, eqvF, rnmL, rnm, liveN, lvB, goodH, gdB, okL, ok, sz, szL, storL, stor, renT, okT, pcB]
      · simp [slot, lkL, fixed, rg, renH, chEq, lookH, eqvL, eqv, eqvF, rnmL, rnm, liveN, Chunk.live, goodH, Chunk.good, okL, ok, sz, szL, storL, stor, renT, okT]
      · simp [slot, lkL, fixed, rg, renH, chEq, lookH, eqvL, eqv, eqvF, rnmL, rnm, liveN, Chunk.live, goodH, Chunk.good, okL, ok, sz, szL, storL, stor, renT, okT]
    · have h1 := hall j hj
      rw [List.mem_reverse, List.mem_map] at h1
      obtain ⟨a, ha, he⟩ := h1
      rwa [hb.2 a j (hp.2 a ha) hj he] at ha

theorem res117 : Try.f117.results.toList = [.tmp 4] := rfl
theorem res108 : Try.f108.results.toList = [.tmp 2] := rfl
theorem res91 : Try.f91.results.toList = [.tmp 2] := rfl
/-- slices.AppendSeq, of a sequence of keys that is known. -/
theorem c117k (f : FuncId) (lb : List Value) (n : Nat) (hn : n ≤ 1000) (ks : Nat → (List UInt8)) : callP (seqRPr Try.prog f lb (keyR n fun j => den (fun _ => ⟨0, 0, 0, true⟩) (.str ⟨⟨ks j⟩⟩)) (keyF n)) 117 [.v (.slice none 0 0), .v (.func (.func f) #[] ⟨lb⟩)] [] (fun _ v h' => ∃ zs : List (List UInt8), zs.Perm ((List.range n).map ks) ∧ v = .osl 0 0 0 1 zs.length ∧ h' = [.row true zs.length 1 fun i => .str ⟨⟨zs.getD i default⟩⟩]) := by
  refine callP_of_codeY (P := (seqRPr Try.prog f lb (keyR n fun j => den (fun _ => ⟨0, 0, 0, true⟩) (.str ⟨⟨ks j⟩⟩)) (keyF n))) tabOk Try.func117 (by kernel_rfl) rfl (Nat.le_of_ble_eq_true rfl) (fv := .nilFunc) (fx := fun _ => none) (nofx _) ?_
  refine codeY_of_vc (pl := np) tabOk follows_mixed (by kernel_rfl) ?_
  rw [Try.ntmps117]
  simp -implicitDefEqProofs (maxSteps := 1000000) (disch := omega) only [↓vcB, ↓gd, ↓opP, ↓qv, ↓ef, ↓bslS, ↓stS, ↓mkS, ↓rangeS, ↓nextS, ↓entryS, ↓delS, ↓mupS, ↓appS, ↓s2bS, ↓resS, evB, Sx.look, slot, ↓lkL, putS, putO, argsL, ↓reduceIte, ofV, of1, lookH, putH, List.length_cons, List.length_nil, List.length_append, List.replicate, List.append, List.cons_append, List.nil_append, List.append_assoc, List.map_cons, List.map_nil, convS, fldA, nthT, idxA, idxS, fldS, oslN, bnd, slS, unS, valI, lenS, lookS, takeC, psB, asRow, csB, Int.toNat_natCast, Int.le_refl, and_self, rdF, Ent.row, ldS, sz, szL, wrF, bldF, plT, bldS, srcS, nilS, nilEq, mapC, binH, binS2, structS, eqL, eqF, binS, arrS, isI, tupS, stor, storL, Value.oneCell', minS, maxS, capS, true_and, and_true, Nat.reduceAdd, Nat.reduceSub, Nat.reduceMul, Nat.reduceLT, Nat.reduceLeDiff, Nat.reduceEqDiff, Nat.reduceBEq, Int.reduceToNat, Int.reduceNeg, Nat.zero_add, Nat.add_zero, Nat.sub_self, Nat.sub_zero, Nat.zero_mul, Nat.mul_one, Nat.zero_le, if_true, if_false, reduceIte, stays, inL, same1, qn, ldN, convN, lenN, List.mem_cons, List.not_mem_nil, Option.map_some, Option.map_none, cond_true, cond_false, Sx.imp_true, Sx.imp_false, implies_true, Int.reduceEq, Int.reduceNe, Int.reduceLE, Int.reduceLT, decide_true, decide_false, List.zipIdx_cons, List.zipIdx_nil, or_false, false_or, forall_eq_or_imp, forall_eq, ne_eq, reduceCtorEq, not_false_eq_true, Bool.false_eq_true, Bool.true_eq_false, Bool.not_true, Bool.not_false, notInt, numB, tabB, ↓vyB, ↓opY, roA, liveA, lvB, frz, frz1, true_or, Array.reduceGetElem?, upG, up, nth, lay, rcB, rnm, rnmL, wrB, pcB, Value.oneCell']
  refine codeY_rangeR [] (fun i sv i' => ∃ p j, Pl n p ∧ j < n ∧ j ∉ p ∧ i = cd n p ∧ sv = .str ⟨⟨ks j⟩⟩ ∧ i' = cd n (j :: p)) (fun i => ∃ p, Pl n p ∧ p.length = n ∧ i = cd n p) (fun _ => True) ?_ (by simp [roA, liveA, lookH, Chunk.live, Chunk.wr]) (by simp) (fun ρ w X hk _ => ?_)
    (fun i g h' => g = .run 0 ∧ ∃ p, Pl n p ∧ i = cd n p ∧ ((p = [] ∧ h' = [.cells true [.v (.slice none 0 0)]]) ∨ (p ≠ [] ∧ h' = [.cells true [.osl 1 0 0 1 (p).length], .row true (p).length 1 fun i => .str ⟨⟨ks ((p).reverse.getD i 0)⟩⟩]))) (fun i g e h' => False) ?_ ?_ ?_ ?_
  · rintro i sv i' ⟨p, j, _, _, _, _, rfl, _⟩
    trivial
  · obtain ⟨B, h1, h2⟩ := hk
    refine ⟨f, lb, B, rfl, h2.mono ?_, fun b hb => .inl (h1 b hb)⟩
    rintro i v i' ⟨p, j, q1, q2, q3, q4, rfl, q6⟩
    exact ⟨_, ⟨p, j, q1, q2, q3, q4, rfl, q6⟩, rfl⟩
  · exact ⟨rfl, [], Pl.nil n, rfl, .inl ⟨rfl, by simp [frz, inL]⟩⟩
  · rintro _ _ _ g h' ⟨p, j, hp, hj, hjp, rfl, rfl, rfl⟩ ⟨rfl, p1, hp1, he, hcase⟩
    obtain rfl := cd_inj n p p1 hp.2 hp1.2 he
    have hpj := hp.cons hj hjp
    have hle := hpj.le
    simp only [List.length_cons] at hle
    rcases hcase with ⟨rfl, rfl⟩ | ⟨hne, rfl⟩
    · refine codeY_of_vc (pl := np) tabOk follows_mixed (by kernel_rfl) ?_
      simp -implicitDefEqProofs (maxSteps := 1000000) (disch := omega) only [↓vcB, ↓gd, ↓opP, ↓qv, ↓ef, ↓bslS, ↓stS, ↓mkS, ↓rangeS, ↓nextS, ↓entryS, ↓delS, ↓mupS, ↓appS, ↓s2bS, ↓resS, evB, Sx.look, slot, ↓lkL, putS, putO, argsL, ↓reduceIte, ofV, of1, lookH, putH, List.length_cons, List.length_nil, List.length_append, List.replicate, List.append, List.cons_append, List.nil_append, List.append_assoc, List.map_cons, List.map_nil, convS, fldA, nthT, idxA, idxS, fldS, oslN, bnd, slS, unS, valI, lenS, lookS, takeC, psB, asRow, csB, Int.toNat_natCast, Int.le_refl, and_self, rdF, Ent.row, ldS, sz, szL, wrF, bldF, plT, bldS, srcS, nilS, nilEq, mapC, binH, binS2, structS, eqL, eqF, binS, arrS, isI, tupS, stor, storL, Value.oneCell', minS, maxS, capS, true_and, and_true, Nat.reduceAdd, Nat.reduceSub, Nat.reduceMul, Nat.reduceLT, Nat.reduceLeDiff, Nat.reduceEqDiff, Nat.reduceBEq, Int.reduceToNat, Int.reduceNeg, Nat.zero_add, Nat.add_zero, Nat.sub_self, Nat.sub_zero, Nat.zero_mul, Nat.mul_one, Nat.zero_le, if_true, if_false, reduceIte, stays, inL, same1, qn, ldN, convN, lenN, List.mem_cons, List.not_mem_nil, Option.map_some, Option.map_none, cond_true, cond_false, Sx.imp_true, Sx.imp_false, implies_true, Int.reduceEq, Int.reduceNe, Int.reduceLE, Int.reduceLT, decide_true, decide_false, List.zipIdx_cons, List.zipIdx_nil, or_false, false_or, forall_eq_or_imp, forall_eq, ne_eq, reduceCtorEq, not_false_eq_true, Bool.false_eq_true, Bool.true_eq_false, Bool.not_true, Bool.not_false, notInt, numB, tabB, ↓vyB, ↓opY, roA, liveA, lvB, frz, frz1, true_or, Array.reduceGetElem?, upG, up, nth, lay, rcB, rnm, rnmL, wrB, pcB]
      refine codeY_of_vc (pl := np) tabOk follows_mixed (by kernel_rfl) ?_
      simp -implicitDefEqProofs (maxSteps := 1000000) (disch := omega) only [↓vcB, ↓gd, ↓opP, ↓qv, ↓ef, ↓bslS, ↓stS, ↓mkS, ↓rangeS, ↓nextS, ↓entryS, ↓delS, ↓mupS, ↓appS, ↓s2bS, ↓resS, evB, Sx.look, slot, ↓lkL, putS, putO, argsL, ↓reduceIte, ofV, of1, lookH, putH, List.length_cons, List.length_nil, List.length_append, List.replicate, List.append, List.cons_append, List.nil_append, List.append_assoc, List.map_cons, List.map_nil, convS, fldA, nthT, idxA, idxS, fldS, oslN, bnd, slS, unS, valI, lenS, lookS, takeC, psB, asRow, csB, Int.toNat_natCast, Int.le_refl, and_self, rdF, Ent.row, ldS, sz, szL, wrF, bldF, plT, bldS, srcS, nilS, nilEq, mapC, binH, binS2, structS, eqL, eqF, binS, arrS, isI, tupS, stor, storL, Value.oneCell', minS, maxS, capS, true_and, and_true, Nat.reduceAdd, Nat.reduceSub, Nat.reduceMul, Nat.reduceLT, Nat.reduceLeDiff, Nat.reduceEqDiff, Nat.reduceBEq, Int.reduceToNat, Int.reduceNeg, Nat.zero_add, Nat.add_zero, Nat.sub_self, Nat.sub_zero, Nat.zero_mul, Nat.mul_one, Nat.zero_le, if_true, if_false, reduceIte, stays, inL, same1, qn, ldN, convN, lenN, List.mem_cons, List.not_mem_nil, Option.map_some, Option.map_none, cond_true, cond_false, Sx.imp_true, Sx.imp_false, implies_true, Int.reduceEq, Int.reduceNe, Int.reduceLE, Int.reduceLT, decide_true, decide_false, List.zipIdx_cons, List.zipIdx_nil, or_false, false_or, forall_eq_or_imp, forall_eq, ne_eq, reduceCtorEq, not_false_eq_true, Bool.false_eq_true, Bool.true_eq_false, Bool.not_true, Bool.not_false, notInt, numB, tabB, ↓vyB, ↓opY, roA, liveA, lvB, frz, frz1, true_or, Array.reduceGetElem?, upG, up, nth, lay, rcB, rnm, rnmL, wrB, pcB, csz_slice']
      repeat (refine ⟨by omega, ?_⟩)
      intro d
      refine into_mk [some 0, some 2] [] [.cells true [.osl 1 0 0 1 ([j]).length], .row true ([j]).length 1 fun i => .str ⟨⟨ks (([j]).reverse.getD i 0)⟩⟩] ?_ ?_ ?_ ?_ ?_ ?_ ?_ fun j' => ⟨rfl, ⟨[j], hpj, rfl, .inr ⟨by simp, rfl⟩⟩, by simp [roA, liveA, lookH, frz, frz1, inL, Chunk.live, Chunk.wr]⟩
      · simp [slot, lkL, fixed, rg, renH, chEq, lookH, eqvL, eqv, eqvF, rnmL, rnm, liveN, Chunk.live, goodH, Chunk.good, okL, ok, sz, szL, storL, stor, renT, okT]
      · simp [slot, lkL, fixed, rg, renH, chEq, lookH, eqvL, eqv, eqvF, rnmL, rnm, liveN, Chunk.live, goodH, Chunk.good, okL, ok, sz, szL, storL, stor, renT, okT]
      · simp [slot, lkL, fixed, rg, renH, chEq, lookH, eqvL, eqv, eqvF, rnmL, rnm, liveN, Chunk.live, goodH, Chunk.good, okL, ok, sz, szL, storL, stor, renT, okT, Sx.look]
      · simp [slot, lkL, fixed, rg, renH, chEq, lookH, eqvL, eqv, eqvF, rnmL, rnm, liveN, Chunk.live, goodH, Chunk.good, okL, ok, sz, szL, storL, stor, renT, okT]
      · simp [slot, lkL, fixed, rg, renH, chEq, lookH, eqvL, eqv, eqvF, rnmL, rnm, liveN, Chunk.live, goodH, Chunk.good, okL, ok, sz, szL, storL, stor, renT, okT, Value.oneCell']
      · simp [slot, lkL, fixed, rg, renH, chEq, lookH, eqvL, eqv, eqvF, rnmL, rnm, liveN, Chunk.live, goodH, Chunk.good, okL, ok, sz, szL, storL, stor, renT, okT]
      · simp [slot, lkL, fixed, rg, renH, chEq, lookH, eqvL, eqv, eqvF, rnmL, rnm, liveN, Chunk.live, goodH, Chunk.good, okL, ok, sz, szL, storL, stor, renT, okT]
    · refine codeY_of_vc (pl := np) tabOk follows_mixed (by kernel_rfl) ?_
      simp -implicitDefEqProofs (maxSteps := 1000000) (disch := omega) only [↓vcB, ↓gd, ↓opP, ↓qv, ↓ef, ↓bslS, ↓stS, ↓mkS, ↓rangeS, ↓nextS, ↓entryS, ↓delS, ↓mupS, ↓appS, ↓s2bS, ↓resS, evB, Sx.look, slot, ↓lkL, putS, putO, argsL, ↓reduceIte, ofV, of1, lookH, putH, List.length_cons, List.length_nil, List.length_append, List.replicate, List.append, List.cons_append, List.nil_append, List.append_assoc, List.map_cons, List.map_nil, convS, fldA, nthT, idxA, idxS, fldS, oslN, bnd, slS, unS, valI, lenS, lookS, takeC, psB, asRow, csB, Int.toNat_natCast, Int.le_refl, and_self, rdF, Ent.row, ldS, sz, szL, wrF, bldF, plT, bldS, srcS, nilS, nilEq, mapC, binH, binS2, structS, eqL, eqF, binS, arrS, isI, tupS, stor, storL, Value.oneCell', minS, maxS, capS, true_and, and_true, Nat.reduceAdd, Nat.reduceSub, Nat.reduceMul, Nat.reduceLT, Nat.reduceLeDiff, Nat.reduceEqDiff, Nat.reduceBEq, Int.reduceToNat, Int.reduceNeg, Nat.zero_add, Nat.add_zero, Nat.sub_self, Nat.sub_zero, Nat.zero_mul, Nat.mul_one, Nat.zero_le, if_true, if_false, reduceIte, stays, inL, same1, qn, ldN, convN, lenN, List.mem_cons, List.not_mem_nil, Option.map_some, Option.map_none, cond_true, cond_false, Sx.imp_true, Sx.imp_false, implies_true, Int.reduceEq, Int.reduceNe, Int.reduceLE, Int.reduceLT, decide_true, decide_false, List.zipIdx_cons, List.zipIdx_nil, or_false, false_or, forall_eq_or_imp, forall_eq, ne_eq, reduceCtorEq, not_false_eq_true, Bool.false_eq_true, Bool.true_eq_false, Bool.not_true, Bool.not_false, notInt, numB, tabB, ↓vyB, ↓opY, roA, liveA, lvB, frz, frz1, true_or, Array.reduceGetElem?, upG, up, nth, lay, rcB, rnm, rnmL, wrB, pcB]
      refine codeY_of_vc (pl := np) tabOk follows_mixed (by kernel_rfl) ?_
      simp -implicitDefEqProofs (maxSteps := 1000000) (disch := omega) only [↓vcB, ↓gd, ↓opP, ↓qv, ↓ef, ↓bslS, ↓stS, ↓mkS, ↓rangeS, ↓nextS, ↓entryS, ↓delS, ↓mupS, ↓appS, ↓s2bS, ↓resS, evB, Sx.look, slot, ↓lkL, putS, putO, argsL, ↓reduceIte, ofV, of1, lookH, putH, List.length_cons, List.length_nil, List.length_append, List.replicate, List.append, List.cons_append, List.nil_append, List.append_assoc, List.map_cons, List.map_nil, convS, fldA, nthT, idxA, idxS, fldS, oslN, bnd, slS, unS, valI, lenS, lookS, takeC, psB, asRow, csB, Int.toNat_natCast, Int.le_refl, and_self, rdF, Ent.row, ldS, sz, szL, wrF, bldF, plT, bldS, srcS, nilS, nilEq, mapC, binH, binS2, structS, eqL, eqF, binS, arrS, isI, tupS, stor, storL, Value.oneCell', minS, maxS, capS, true_and, and_true, Nat.reduceAdd, Nat.reduceSub, Nat.reduceMul, Nat.reduceLT, Nat.reduceLeDiff, Nat.reduceEqDiff, Nat.reduceBEq, Int.reduceToNat, Int.reduceNeg, Nat.zero_add, Nat.add_zero, Nat.sub_self, Nat.sub_zero, Nat.zero_mul, Nat.mul_one, Nat.zero_le, if_true, if_false, reduceIte, stays, inL, same1, qn, ldN, convN, lenN, List.mem_cons, List.not_mem_nil, Option.map_some, Option.map_none, cond_true, cond_false, Sx.imp_true, Sx.imp_false, implies_true, Int.reduceEq, Int.reduceNe, Int.reduceLE, Int.reduceLT, decide_true, decide_false, List.zipIdx_cons, List.zipIdx_nil, or_false, false_or, forall_eq_or_imp, forall_eq, ne_eq, reduceCtorEq, not_false_eq_true, Bool.false_eq_true, Bool.true_eq_false, Bool.not_true, Bool.not_false, notInt, numB, tabB, ↓vyB, ↓opY, roA, liveA, lvB, frz, frz1, true_or, Array.reduceGetElem?, upG, up, nth, lay, rcB, rnm, rnmL, wrB, pcB, csz_slice']
      repeat (refine ⟨by omega, ?_⟩)
      intro d
      refine into_mk [some 0, some 3] [] [.cells true [.osl 1 0 0 1 (j :: p).length], .row true (j :: p).length 1 fun i => .str ⟨⟨ks ((j :: p).reverse.getD i 0)⟩⟩] ?_ ?_ ?_ ?_ ?_ ?_ ?_ fun j' => ⟨rfl, ⟨j :: p, hpj, rfl, .inr ⟨by simp, rfl⟩⟩, by simp [roA, liveA, lookH, frz, frz1, inL, Chunk.live, Chunk.wr]⟩
      · simp [slot, lkL, fixed, rg, renH, chEq, lookH, eqvL, eqv, eqvF, rnmL, rnm, liveN, Chunk.live, goodH, Chunk.good, okL, ok, sz, szL, storL, stor, renT, okT]
      · simp [slot, lkL, fixed, rg, renH, chEq, lookH, eqvL, eqv, eqvF, rnmL, rnm, liveN, Chunk.live, goodH, Chunk.good, okL, ok, sz, szL, storL, stor, renT, okT]
      · simp [slot, lkL, fixed, rg, renH, chEq, lookH, eqvL, eqv, eqvF, rnmL, rnm, liveN, Chunk.live, goodH, Chunk.good, okL, ok, sz, szL, storL, stor, renT, okT, Sx.look]
        intro i hi
        by_cases hlt : i < p.length
        · simp [hlt, eqv, List.getElem?_append_left]
        · obtain rfl : i = p.length := by omega
          simp [Sx.look, eqv]
      · simp [slot, lkL, fixed, rg, renH, chEq, lookH, eqvL, eqv, eqvF, rnmL, rnm, liveN, Chunk.live, goodH, Chunk.good, okL, ok, sz, szL, storL, stor, renT, okT]
      · simp [slot, lkL, fixed, rg, renH, chEq, lookH, eqvL, eqv, eqvF, rnmL, rnm, liveN, Chunk.live, goodH, Chunk.good, okL, ok, sz, szL, storL, stor, renT, okT, Value.oneCell']
      · simp [slot, lkL, fixed, rg, renH, chEq, lookH, eqvL, eqv, eqvF, rnmL, rnm, liveN, Chunk.live, goodH, Chunk.good, okL, ok, sz, szL, storL, stor, renT, okT]
      · simp [slot, lkL, fixed, rg, renH, chEq, lookH, eqvL, eqv, eqvF, rnmL, rnm, liveN, Chunk.live, goodH, Chunk.good, okL, ok, sz, szL, storL, stor, renT, okT]
  · rintro i g h' ⟨p, hp, hl, rfl⟩ ⟨rfl, p1, hp1, he, hcase⟩
    obtain rfl := cd_inj n p p1 hp.2 hp1.2 he
    rcases hcase with ⟨rfl, rfl⟩ | ⟨hne, rfl⟩
    · simp -implicitDefEqProofs (maxSteps := 1000000) (disch := omega) only [↓vcB, ↓gd, ↓opP, ↓qv, ↓ef, ↓bslS, ↓stS, ↓mkS, ↓rangeS, ↓nextS, ↓entryS, ↓delS, ↓mupS, ↓appS, ↓s2bS, ↓resS, evB, Sx.look, slot, ↓lkL, putS, putO, argsL, ↓reduceIte, ofV, of1, lookH, putH, List.length_cons, List.length_nil, List.length_append, List.replicate, List.append, List.cons_append, List.nil_append, List.append_assoc, List.map_cons, List.map_nil, convS, fldA, nthT, idxA, idxS, fldS, oslN, bnd, slS, unS, valI, lenS, lookS, takeC, psB, asRow, csB, Int.toNat_natCast, Int.le_refl, and_self, rdF, Ent.row, ldS, sz, szL, wrF, bldF, plT, bldS, srcS, nilS, nilEq, mapC, binH, binS2, structS, eqL, eqF, binS, arrS, isI, tupS, stor, storL, Value.oneCell', minS, maxS, capS, true_and, and_true, Nat.reduceAdd, Nat.reduceSub, Nat.reduceMul, Nat.reduceLT, Nat.reduceLeDiff, Nat.reduceEqDiff, Nat.reduceBEq, Int.reduceToNat, Int.reduceNeg, Nat.zero_add, Nat.add_zero, Nat.sub_self, Nat.sub_zero, Nat.zero_mul, Nat.mul_one, Nat.zero_le, if_true, if_false, reduceIte, stays, inL, same1, qn, ldN, convN, lenN, List.mem_cons, List.not_mem_nil, Option.map_some, Option.map_none, cond_true, cond_false, Sx.imp_true, Sx.imp_false, implies_true, Int.reduceEq, Int.reduceNe, Int.reduceLE, Int.reduceLT, decide_true, decide_false, List.zipIdx_cons, List.zipIdx_nil, or_false, false_or, forall_eq_or_imp, forall_eq, ne_eq, reduceCtorEq, not_false_eq_true, Bool.false_eq_true, Bool.true_eq_false, Bool.not_true, Bool.not_false, notInt, numB, tabB, ↓vyB, ↓opY, roA, liveA, lvB, frz, frz1, true_or, Array.reduceGetElem?, upG, up, nth, lay, rcB, rnm, rnmL, wrB, pcB, res117]
      have hn0 : n = 0 := by simpa using hl.symm
      subst hn0
      exact intoR_nilT [] rfl rfl trivial ⟨[], by simp, rfl, rfl⟩
    · simp -implicitDefEqProofs (maxSteps := 1000000) (disch := omega) only [↓vcB, ↓gd, ↓opP, ↓qv, ↓ef, ↓bslS, ↓stS, ↓mkS, ↓rangeS, ↓nextS, ↓entryS, ↓delS, ↓mupS, ↓appS, ↓s2bS, ↓resS, evB, Sx.look, slot, ↓lkL, putS, putO, argsL, ↓reduceIte, ofV, of1, lookH, putH, List.length_cons, List.length_nil, List.length_append, List.replicate, List.append, List.cons_append, List.nil_append, List.append_assoc, List.map_cons, List.map_nil, convS, fldA, nthT, idxA, idxS, fldS, oslN, bnd, slS, unS, valI, lenS, lookS, takeC, psB, asRow, csB, Int.toNat_natCast, Int.le_refl, and_self, rdF, Ent.row, ldS, sz, szL, wrF, bldF, plT, bldS, srcS, nilS, nilEq, mapC, binH, binS2, structS, eqL, eqF, binS, arrS, isI, tupS, stor, storL, Value.oneCell', minS, maxS, capS, true_and, and_true, Nat.reduceAdd, Nat.reduceSub, Nat.reduceMul, Nat.reduceLT, Nat.reduceLeDiff, Nat.reduceEqDiff, Nat.reduceBEq, Int.reduceToNat, Int.reduceNeg, Nat.zero_add, Nat.add_zero, Nat.sub_self, Nat.sub_zero, Nat.zero_mul, Nat.mul_one, Nat.zero_le, if_true, if_false, reduceIte, stays, inL, same1, qn, ldN, convN, lenN, List.mem_cons, List.not_mem_nil, Option.map_some, Option.map_none, cond_true, cond_false, Sx.imp_true, Sx.imp_false, implies_true, Int.reduceEq, Int.reduceNe, Int.reduceLE, Int.reduceLT, decide_true, decide_false, List.zipIdx_cons, List.zipIdx_nil, or_false, false_or, forall_eq_or_imp, forall_eq, ne_eq, reduceCtorEq, not_false_eq_true, Bool.false_eq_true, Bool.true_eq_false, Bool.not_true, Bool.not_false, notInt, numB, tabB, ↓vyB, ↓opY, roA, liveA, lvB, frz, frz1, true_or, Array.reduceGetElem?, upG, up, nth, lay, rcB, rnm, rnmL, wrB, pcB, res117]
      have hlen : (p.reverse.map ks).length = p.length := by simp
      refine intoR_mk [some 1] (.osl 0 0 0 1 (p.reverse.map ks).length) [.row true (p.reverse.map ks).length 1 fun i => .str ⟨⟨(p.reverse.map ks).getD i default⟩⟩] ?_ ?_ ?_ ?_ ?_ ?_ ?_ ⟨p.reverse.map ks, ((List.reverse_perm p).trans (hp.perm hl)).map ks, rfl, rfl⟩
      · simp [slot, lkL, fixed, rg, renH, chEq, lookH, eqvL, eqv, eqvF, rnmL, rnm, liveN, Chunk.live, goodH, Chunk.good, okL, ok, sz, szL, storL, stor, renT, okT]
      · simp [slot, lkL, fixed, rg, renH, chEq, lookH, eqvL, eqv, eqvF, rnmL, rnm, liveN, Chunk.live, goodH, Chunk.good, okL, ok, sz, szL, storL, stor, renT, okT]
      · simp [slot, lkL, fixed, rg, renH, chEq, lookH, eqvL, eqv, eqvF, rnmL, rnm, liveN, Chunk.live, goodH, Chunk.good, okL, ok, sz, szL, storL, stor, renT, okT]
        intro i hi
        simp [eqv, List.getElem?_reverse, hi]
      · simp [slot, lkL, fixed, rg, renH, chEq, lookH, eqvL, eqv, eqvF, rnmL, rnm, liveN, Chunk.live, goodH, Chunk.good, okL, ok, sz, szL, storL, stor, renT, okT]
      · simp [slot, lkL, fixed, rg, renH, chEq, lookH, eqvL, eqv, eqvF, rnmL, rnm, liveN, Chunk.live, goodH, Chunk.good, okL, ok, sz, szL, storL, stor, renT, okT]
      · simp [slot, lkL, fixed, rg, renH, chEq, lookH, eqvL, eqv, eqvF, rnmL, rnm, liveN, Chunk.live, goodH, Chunk.good, okL, ok, sz, szL, storL, stor, renT, okT]
      · simp [slot, lkL, fixed, rg, renH, chEq, lookH, eqvL, eqv, eqvF, rnmL, rnm, liveN, Chunk.live, goodH, Chunk.good, okL, ok, sz, szL, storL, stor, renT, okT]
  · rintro i g e h' _ he
    exact he.elim
theorem c108k (f : FuncId) (lb : List Value) (n : Nat) (hn : n ≤ 1000) (ks : Nat → (List UInt8)) : callP (seqRPr Try.prog f lb (keyR n fun j => den (fun _ => ⟨0, 0, 0, true⟩) (.str ⟨⟨ks j⟩⟩)) (keyF n)) 108 [.v (.func (.func f) #[] ⟨lb⟩)] [] (fun _ v h' => ∃ zs : List (List UInt8), zs.Perm ((List.range n).map ks) ∧ v = .osl 0 0 0 1 zs.length ∧ h' = [.row true zs.length 1 fun i => .str ⟨⟨zs.getD i default⟩⟩]) := by
  refine callP_of_code (P := (seqRPr Try.prog f lb (keyR n fun j => den (fun _ => ⟨0, 0, 0, true⟩) (.str ⟨⟨ks j⟩⟩)) (keyF n))) tabOk Try.func108 (by kernel_rfl) rfl (Nat.le_of_ble_eq_true rfl) (codeP_of_vc (pl := np) tabOk follows_mixed (by kernel_rfl) ?_)
  rw [Try.ntmps108]
  simp -implicitDefEqProofs (maxSteps := 1000000) (disch := omega) only [↓vcB, ↓gd, ↓opP, ↓qv, ↓ef, ↓bslS, ↓stS, ↓mkS, ↓rangeS, ↓nextS, ↓entryS, ↓delS, ↓mupS, ↓appS, ↓s2bS, ↓resS, evB, Sx.look, slot, ↓lkL, putS, putO, argsL, ↓reduceIte, ofV, of1, lookH, putH, List.length_cons, List.length_nil, List.length_append, List.replicate, List.append, List.cons_append, List.nil_append, List.append_assoc, List.map_cons, List.map_nil, convS, fldA, nthT, idxA, idxS, fldS, oslN, bnd, slS, unS, valI, lenS, lookS, takeC, psB, asRow, csB, Int.toNat_natCast, Int.le_refl, and_self, rdF, Ent.row, ldS, sz, szL, wrF, bldF, plT, bldS, srcS, nilS, nilEq, mapC, binH, binS2, structS, eqL, eqF, binS, arrS, isI, tupS, stor, storL, Value.oneCell', minS, maxS, capS, true_and, and_true, Nat.reduceAdd, Nat.reduceSub, Nat.reduceMul, Nat.reduceLT, Nat.reduceLeDiff, Nat.reduceEqDiff, Nat.reduceBEq, Int.reduceToNat, Int.reduceNeg, Nat.zero_add, Nat.add_zero, Nat.sub_self, Nat.sub_zero, Nat.zero_mul, Nat.mul_one, Nat.zero_le, if_true, if_false, reduceIte, stays, inL, same1, qn, ldN, convN, lenN, List.mem_cons, List.not_mem_nil, Option.map_some, Option.map_none, cond_true, cond_false, Sx.imp_true, Sx.imp_false, implies_true, Int.reduceEq, Int.reduceNe, Int.reduceLE, Int.reduceLT, decide_true, decide_false, List.zipIdx_cons, List.zipIdx_nil, or_false, false_or, forall_eq_or_imp, forall_eq, ne_eq, reduceCtorEq, not_false_eq_true, Bool.false_eq_true, Bool.true_eq_false, Bool.not_true, Bool.not_false, notInt, numB, tabB, Array.reduceGetElem?, upG, up, nth, lay, rcB, rnm, rnmL, wrB, pcB, res108]
  refine callP_mono (c117k f lb n hn ks) ?_
  rintro v h' ⟨zs, hz, rfl, rfl⟩
  simp -implicitDefEqProofs (maxSteps := 1000000) (disch := omega) only [↓vcB, ↓gd, ↓opP, ↓qv, ↓ef, ↓bslS, ↓stS, ↓mkS, ↓rangeS, ↓nextS, ↓entryS, ↓delS, ↓mupS, ↓appS, ↓s2bS, ↓resS, evB, Sx.look, slot, ↓lkL, putS, putO, argsL, ↓reduceIte, ofV, of1, lookH, putH, List.length_cons, List.length_nil, List.length_append, List.replicate, List.append, List.cons_append, List.nil_append, List.append_assoc, List.map_cons, List.map_nil, convS, fldA, nthT, idxA, idxS, fldS, oslN, bnd, slS, unS, valI, lenS, lookS, takeC, psB, asRow, csB, Int.toNat_natCast, Int.le_refl, and_self, rdF, Ent.row, ldS, sz, szL, wrF, bldF, plT, bldS, srcS, nilS, nilEq, mapC, binH, binS2, structS, eqL, eqF, binS, arrS, isI, tupS, stor, storL, Value.oneCell', minS, maxS, capS, true_and, and_true, Nat.reduceAdd, Nat.reduceSub, Nat.reduceMul, Nat.reduceLT, Nat.reduceLeDiff, Nat.reduceEqDiff, Nat.reduceBEq, Int.reduceToNat, Int.reduceNeg, Nat.zero_add, Nat.add_zero, Nat.sub_self, Nat.sub_zero, Nat.zero_mul, Nat.mul_one, Nat.zero_le, if_true, if_false, reduceIte, stays, inL, same1, qn, ldN, convN, lenN, List.mem_cons, List.not_mem_nil, Option.map_some, Option.map_none, cond_true, cond_false, Sx.imp_true, Sx.imp_false, implies_true, Int.reduceEq, Int.reduceNe, Int.reduceLE, Int.reduceLT, decide_true, decide_false, List.zipIdx_cons, List.zipIdx_nil, or_false, false_or, forall_eq_or_imp, forall_eq, ne_eq, reduceCtorEq, not_false_eq_true, Bool.false_eq_true, Bool.true_eq_false, Bool.not_true, Bool.not_false, notInt, numB, tabB, Array.reduceGetElem?, upG, up, nth, lay, rcB, rnm, rnmL, wrB, pcB, res108]
  exact intoR_refl (Nat.zero_le _) ⟨zs, hz, rfl, rfl⟩
section
variable {P : Pr} (hP : P.p = Try.prog)
include hP
/-- slices.Collect, of keys in a heap. -/
theorem c108 {qs : List Nat} {h : List Chunk} {sv : SV} {n : Nat} (hn : n ≤ 1000) {ks : Nat → (List UInt8)} (hs : SeqR P qs h sv (keyR n fun j => den (fun _ => ⟨0, 0, 0, true⟩) (.str ⟨⟨ks j⟩⟩)) (keyF n)) (K : Tok → SV → List Chunk → Prop)
    (hK : ∀ zs : List (List UInt8), zs.Perm ((List.range n).map ks) → K .mk (.osl h.length 0 0 1 zs.length) (h ++ [.row true zs.length 1 fun i => .str ⟨⟨zs.getD i default⟩⟩])) : callP P 108 [sv] h K := by
  refine callP_open (KL := (fun _ v h' => ∃ zs : List (List UInt8), zs.Perm ((List.range n).map ks) ∧ v = .osl 0 0 0 1 zs.length ∧ h' = [.row true zs.length 1 fun i => .str ⟨⟨zs.getD i default⟩⟩])) (fun C ρ w hk hMo => ?_) ?_
  · obtain ⟨f, lb, B, hd, hg, _⟩ := hs ρ w (fun b => C.X b ∨ C.w0.heap.size ≤ b) (P.keep hk hMo.keep fun b hb => hb) fun k hkq => ⟨lookH_holds hMo k, fun hR => hMo.size k _ (lookH_some rfl (by intro e; rw [e] at hR; cases hR.1)) hR⟩
    rw [hP] at hg
    have hd' : ∀ ρ', denL ρ [sv] = denL ρ' [.v (.func (.func f) #[] ⟨lb⟩)] := fun ρ' => by simp only [denL, hd, den]
    exact ⟨(seqRPr Try.prog f lb (keyR n fun j => den (fun _ => ⟨0, 0, 0, true⟩) (.str ⟨⟨ks j⟩⟩)) (keyF n)), [.v (.func (.func f) #[] ⟨lb⟩)], hP.symm, ⟨B, fun _ _ h => h, hg⟩, ⟨trivial, trivial⟩, hd', c108k f lb n hn ks⟩
  · rintro v hl' ⟨zs, hz, rfl, rfl⟩
    refine ⟨by simp [Chunk.wr], ?_⟩
    have e1 : rnm (upG [] h.length) (.osl 0 0 0 1 zs.length) = .osl h.length 0 0 1 zs.length := by simp [rnm, upG, up, nth]
    have e2 : [Chunk.row true zs.length 1 fun i => .str ⟨⟨zs.getD i default⟩⟩].map (rnmC (upG [] h.length)) = [Chunk.row true zs.length 1 fun i => .str ⟨⟨zs.getD i default⟩⟩] := by simp [rnmC, rnm, ]
    rw [e1, e2]
    exact hK zs hz
end
/-- slices.Sorted, of keys. -/
theorem c91 {qs : List Nat} {h : List Chunk} {sv : SV} {n : Nat} (hn : n ≤ 1000) {ks : Nat → (List UInt8)} (hs : SeqR (Pr.of Try.prog) qs h sv (keyR n fun j => den (fun _ => ⟨0, 0, 0, true⟩) (.str ⟨⟨ks j⟩⟩)) (keyF n)) (S : List (List UInt8)) (hS : S = ((List.range n).map ks).mergeSort fun x y => decide (x ≤ y)) (K : Tok → SV → List Chunk → Prop)
    (hK : K .mk (.osl h.length 0 0 1 S.length) (h ++ [.row true S.length 1 fun i => .str ⟨⟨S.getD i default⟩⟩])) : callP Try.prog 91 [sv] h K := by
  refine callP_of_code tabOk Try.func91 (by kernel_rfl) rfl (Nat.le_of_ble_eq_true rfl) (codeP_of_vc (pl := np) tabOk follows_mixed (by kernel_rfl) ?_)
  rw [Try.ntmps91]
  simp -implicitDefEqProofs (maxSteps := 1000000) (disch := omega) only [↓vcB, ↓gd, ↓opP, ↓qv, ↓ef, ↓bslS, ↓stS, ↓mkS, ↓rangeS, ↓nextS, ↓entryS, ↓delS, ↓mupS, ↓appS, ↓s2bS, ↓resS, evB, Sx.look, slot, ↓lkL, putS, putO, argsL, ↓reduceIte, ofV, of1, lookH, putH, List.length_cons, List.length_nil, List.length_append, List.replicate, List.append, List.cons_append, List.nil_append, List.append_assoc, List.map_cons, List.map_nil, convS, fldA, nthT, idxA, idxS, fldS, oslN, bnd, slS, unS, valI, lenS, lookS, takeC, psB, asRow, csB, Int.toNat_natCast, Int.le_refl, and_self, rdF, Ent.row, ldS, sz, szL, wrF, bldF, plT, bldS, srcS, nilS, nilEq, mapC, binH, binS2, structS, eqL, eqF, binS, arrS, isI, tupS, stor, storL, Value.oneCell', minS, maxS, capS, true_and, and_true, Nat.reduceAdd, Nat.reduceSub, Nat.reduceMul, Nat.reduceLT, Nat.reduceLeDiff, Nat.reduceEqDiff, Nat.reduceBEq, Int.reduceToNat, Int.reduceNeg, Nat.zero_add, Nat.add_zero, Nat.sub_self, Nat.sub_zero, Nat.zero_mul, Nat.mul_one, Nat.zero_le, if_true, if_false, reduceIte, stays, inL, same1, qn, ldN, convN, lenN, List.mem_cons, List.not_mem_nil, Option.map_some, Option.map_none, cond_true, cond_false, Sx.imp_true, Sx.imp_false, implies_true, Int.reduceEq, Int.reduceNe, Int.reduceLE, Int.reduceLT, decide_true, decide_false, List.zipIdx_cons, List.zipIdx_nil, or_false, false_or, forall_eq_or_imp, forall_eq, ne_eq, reduceCtorEq, not_false_eq_true, Bool.false_eq_true, Bool.true_eq_false, Bool.not_true, Bool.not_false, notInt, numB, tabB, Array.reduceGetElem?, upG, up, nth, lay, rcB, rnm, rnmL, wrB, pcB, res91]
  refine c108 rfl hn hs _ fun zs hz => ?_
  have hS2 : (zs.mergeSort fun x y => decide (x ≤ y)) = S := by rw [hS]; exact sortS_perm hz
  have hl : S.length = zs.length := by rw [← hS2, List.length_mergeSort]
  have hzl : zs.length = n := by rw [hz.length_eq]; simp
  rw [hl] at hK
  simp -implicitDefEqProofs (maxSteps := 1000000) (disch := omega) only [↓vcB, ↓gd, ↓opP, ↓qv, ↓ef, ↓bslS, ↓stS, ↓mkS, ↓rangeS, ↓nextS, ↓entryS, ↓delS, ↓mupS, ↓appS, ↓s2bS, ↓resS, evB, Sx.look, slot, ↓lkL, putS, putO, argsL, ↓reduceIte, ofV, of1, lookH, putH, List.length_cons, List.length_nil, List.length_append, List.replicate, List.append, List.cons_append, List.nil_append, List.append_assoc, List.map_cons, List.map_nil, convS, fldA, nthT, idxA, idxS, fldS, oslN, bnd, slS, unS, valI, lenS, lookS, takeC, psB, asRow, csB, Int.toNat_natCast, Int.le_refl, and_self, rdF, Ent.row, ldS, sz, szL, wrF, bldF, plT, bldS, srcS, nilS, nilEq, mapC, binH, binS2, structS, eqL, eqF, binS, arrS, isI, tupS, stor, storL, Value.oneCell', minS, maxS, capS, true_and, and_true, Nat.reduceAdd, Nat.reduceSub, Nat.reduceMul, Nat.reduceLT, Nat.reduceLeDiff, Nat.reduceEqDiff, Nat.reduceBEq, Int.reduceToNat, Int.reduceNeg, Nat.zero_add, Nat.add_zero, Nat.sub_self, Nat.sub_zero, Nat.zero_mul, Nat.mul_one, Nat.zero_le, if_true, if_false, reduceIte, stays, inL, same1, qn, ldN, convN, lenN, List.mem_cons, List.not_mem_nil, Option.map_some, Option.map_none, cond_true, cond_false, Sx.imp_true, Sx.imp_false, implies_true, Int.reduceEq, Int.reduceNe, Int.reduceLE, Int.reduceLT, decide_true, decide_false, List.zipIdx_cons, List.zipIdx_nil, or_false, false_or, forall_eq_or_imp, forall_eq, ne_eq, reduceCtorEq, not_false_eq_true, Bool.false_eq_true, Bool.true_eq_false, Bool.not_true, Bool.not_false, notInt, numB, tabB, Array.reduceGetElem?, upG, up, nth, lay, rcB, rnm, rnmL, wrB, pcB, res91]
  refine c109 rfl zs (by rw [lookH_app0]; rfl) (by omega) (fun h0 => ?_) (fun h0 => ?_)
  · have hS0 : S = [] := by rw [← hS2, h0]; simp
    rw [hS0] at hK
    rw [h0] at hK ⊢
    simp -implicitDefEqProofs (maxSteps := 1000000) (disch := omega) only [↓vcB, ↓gd, ↓opP, ↓qv, ↓ef, ↓bslS, ↓stS, ↓mkS, ↓rangeS, ↓nextS, ↓entryS, ↓delS, ↓mupS, ↓appS, ↓s2bS, ↓resS, evB, Sx.look, slot, ↓lkL, putS, putO, argsL, ↓reduceIte, ofV, of1, lookH, putH, List.length_cons, List.length_nil, List.length_append, List.replicate, List.append, List.cons_append, List.nil_append, List.append_assoc, List.map_cons, List.map_nil, convS, fldA, nthT, idxA, idxS, fldS, oslN, bnd, slS, unS, valI, lenS, lookS, takeC, psB, asRow, csB, Int.toNat_natCast, Int.le_refl, and_self, rdF, Ent.row, ldS, sz, szL, wrF, bldF, plT, bldS, srcS, nilS, nilEq, mapC, binH, binS2, structS, eqL, eqF, binS, arrS, isI, tupS, stor, storL, Value.oneCell', minS, maxS, capS, true_and, and_true, Nat.reduceAdd, Nat.reduceSub, Nat.reduceMul, Nat.reduceLT, Nat.reduceLeDiff, Nat.reduceEqDiff, Nat.reduceBEq, Int.reduceToNat, Int.reduceNeg, Nat.zero_add, Nat.add_zero, Nat.sub_self, Nat.sub_zero, Nat.zero_mul, Nat.mul_one, Nat.zero_le, if_true, if_false, reduceIte, stays, inL, same1, qn, ldN, convN, lenN, List.mem_cons, List.not_mem_nil, Option.map_some, Option.map_none, cond_true, cond_false, Sx.imp_true, Sx.imp_false, implies_true, Int.reduceEq, Int.reduceNe, Int.reduceLE, Int.reduceLT, decide_true, decide_false, List.zipIdx_cons, List.zipIdx_nil, or_false, false_or, forall_eq_or_imp, forall_eq, ne_eq, reduceCtorEq, not_false_eq_true, Bool.false_eq_true, Bool.true_eq_false, Bool.not_true, Bool.not_false, notInt, numB, tabB, Array.reduceGetElem?, upG, up, nth, lay, rcB, rnm, rnmL, wrB, pcB, res91]
    exact intoR_refl (by simp) hK
  · rw [putH_app0, hS2]
    simp -implicitDefEqProofs (maxSteps := 1000000) (disch := omega) only [↓vcB, ↓gd, ↓opP, ↓qv, ↓ef, ↓bslS, ↓stS, ↓mkS, ↓rangeS, ↓nextS, ↓entryS, ↓delS, ↓mupS, ↓appS, ↓s2bS, ↓resS, evB, Sx.look, slot, ↓lkL, putS, putO, argsL, ↓reduceIte, ofV, of1, lookH, putH, List.length_cons, List.length_nil, List.length_append, List.replicate, List.append, List.cons_append, List.nil_append, List.append_assoc, List.map_cons, List.map_nil, convS, fldA, nthT, idxA, idxS, fldS, oslN, bnd, slS, unS, valI, lenS, lookS, takeC, psB, asRow, csB, Int.toNat_natCast, Int.le_refl, and_self, rdF, Ent.row, ldS, sz, szL, wrF, bldF, plT, bldS, srcS, nilS, nilEq, mapC, binH, binS2, structS, eqL, eqF, binS, arrS, isI, tupS, stor, storL, Value.oneCell', minS, maxS, capS, true_and, and_true, Nat.reduceAdd, Nat.reduceSub, Nat.reduceMul, Nat.reduceLT, Nat.reduceLeDiff, Nat.reduceEqDiff, Nat.reduceBEq, Int.reduceToNat, Int.reduceNeg, Nat.zero_add, Nat.add_zero, Nat.sub_self, Nat.sub_zero, Nat.zero_mul, Nat.mul_one, Nat.zero_le, if_true, if_false, reduceIte, stays, inL, same1, qn, ldN, convN, lenN, List.mem_cons, List.not_mem_nil, Option.map_some, Option.map_none, cond_true, cond_false, Sx.imp_true, Sx.imp_false, implies_true, Int.reduceEq, Int.reduceNe, Int.reduceLE, Int.reduceLT, decide_true, decide_false, List.zipIdx_cons, List.zipIdx_nil, or_false, false_or, forall_eq_or_imp, forall_eq, ne_eq, reduceCtorEq, not_false_eq_true, Bool.false_eq_true, Bool.true_eq_false, Bool.not_true, Bool.not_false, notInt, numB, tabB, Array.reduceGetElem?, upG, up, nth, lay, rcB, rnm, rnmL, wrB, pcB, res91]
    exact intoR_refl (by simp) hK

theorem res92 : Try.f92.results.toList = [.tmp 2] := rfl
theorem seqR110 {P : Pr} (hP : P.p = Try.prog) {qs : List Nat} {h : List Chunk} {k1 k2 : Nat} {w1 : Bool} {n : Nat} {ks : Nat → (List UInt8)} {val : Nat → SV} {born : Nat → Nat} {clock : Nat} (hb : Bn n born clock) (h1 : lookH h k1 = .cells w1 [.mp k2]) (h2 : lookH h k2 = .map n (fun i => .str ⟨⟨ks i⟩⟩) val born clock) (m1 : k1 ∈ qs) (m2 : k2 ∈ qs) :
    SeqR P qs h (.fn (.func 110) [] [.ptr k1 0]) (keyR n fun j => den (fun _ => ⟨0, 0, 0, true⟩) (.str ⟨⟨ks j⟩⟩)) (keyF n) := by
  intro ρ w X hk hH
  have q1 := hH k1 m1
  have q2 := hH k2 m2
  have r1 : Real ρ k1 (lookH h k1) := by rw [h1] at q1 ⊢; exact ⟨rfl, q1.1.1⟩
  have r2 : Real ρ k2 (lookH h k2) := by rw [h2] at q2 ⊢; exact ⟨rfl, q2.1.1⟩
  have hBs : ∀ b, (b = (ρ k1).b ∨ b = (ρ k2).b) → b < w.heap.size := by
    rintro b (rfl | rfl)
    · exact q1.2 r1
    · exact q2.2 r2
  rw [hP]
  refine ⟨110, denL ρ [.ptr k1 0], fun b => b = (ρ k1).b ∨ b = (ρ k2).b, rfl, ?_, ?_⟩
  · have e1 : denL ρ [.ptr k1 0] = denL (fun k => match k with | 0 => ρ k1 | _ => ρ k2) [.ptr 0 0] := rfl
    rw [e1]
    refine gives110 n ks (fun i => den ρ (val i)) born clock hb hBs ?_
    intro k c hc
    rcases k with _ | _ | k
    · cases hc
      rw [h1] at q1
      exact ⟨hold_cell q1.1 rfl rfl, fun _ => .inl rfl⟩
    · cases hc
      rw [h2] at q2
      exact ⟨q2.1, fun _ => .inr rfl⟩
    · simp at hc
  · rintro b (rfl | rfl)
    · exact .inr ⟨k1, m1, r1, rfl⟩
    · exact .inr ⟨k2, m2, r2, rfl⟩
theorem gives110n (ks : Nat → (List UInt8)) {ρ : Env} {B : Nat → Prop} {w0 : World} (hB : ∀ b, B b → b < w0.heap.size) (hH : ∀ k c, [Chunk.cells false [.v (.map none)]][k]? = some c → Holds ρ w0 k c ∧ (Real ρ k c → B (ρ k).b)) :
    GivesR Try.prog 110 (denL ρ [.ptr 0 0]) B (keyR 0 fun j => den (fun _ => ⟨0, 0, 0, true⟩) (.str ⟨⟨ks j⟩⟩)) (keyF 0) w0 := by
  refine givesR_of_codeY (P := Pr.of Try.prog) tabOk Try.func110 (by kernel_rfl) rfl res110 (h0 := [Chunk.cells false [.v (.map none)]]) (Nat.le_of_ble_eq_true rfl) (by simp [slot, lkL, fixed, rg, renH, chB, lookH, eqvL, eqv, eqvF, rnmL, rnm, liveN, lvB, goodH, gdB, okL, ok, sz, szL, storL, stor, renT, okT, pcB, Value.oneCell']) (by simp [okL, ok]) (by simp [Chunk.wr]) (fun l => ?_) hB hH (fun _ _ _ => trivial) (fv := .nilFunc) (fx := fun _ => none) (nofx _)
  refine codeY_of_vc (pl := np) tabOk follows_mixed (by kernel_rfl) ?_
  rw [Try.ntmps110]
  simp -implicitDefEqProofs (maxSteps := 1000000) (disch := omega) only [↓vcB, ↓gd, ↓opP, ↓qv, ↓ef, ↓bslS, ↓stS, ↓mkS, ↓rangeS, ↓nextS, ↓entryS, ↓delS, ↓mupS, ↓appS, ↓s2bS, ↓resS, evB, Sx.look, slot, ↓lkL, putS, putO, argsL, ↓reduceIte, ofV, of1, lookH, putH, List.length_cons, List.length_nil, List.length_append, List.replicate, List.append, List.cons_append, List.nil_append, List.append_assoc, List.map_cons, List.map_nil, convS, fldA, nthT, idxA, idxS, fldS, oslN, bnd, slS, unS, valI, lenS, lookS, takeC, psB, asRow, csB, Int.toNat_natCast, Int.le_refl, and_self, rdF, Ent.row, ldS, sz, szL, wrF, bldF, plT, bldS, srcS, nilS, nilEq, mapC, binH, binS2, structS, eqL, eqF, binS, arrS, isI, tupS, stor, storL, Value.oneCell', minS, maxS, capS, true_and, and_true, Nat.reduceAdd, Nat.reduceSub, Nat.reduceMul, Nat.reduceLT, Nat.reduceLeDiff, Nat.reduceEqDiff, Nat.reduceBEq, Int.reduceToNat, Int.reduceNeg, Nat.zero_add, Nat.add_zero, Nat.sub_self, Nat.sub_zero, Nat.zero_mul, Nat.mul_one, Nat.zero_le, if_true, if_false, reduceIte, stays, inL, same1, qn, ldN, convN, lenN, List.mem_cons, List.not_mem_nil, Option.map_some, Option.map_none, cond_true, cond_false, Sx.imp_true, Sx.imp_false, implies_true, Int.reduceEq, Int.reduceNe, Int.reduceLE, Int.reduceLT, decide_true, decide_false, List.zipIdx_cons, List.zipIdx_nil, or_false, false_or, forall_eq_or_imp, forall_eq, ne_eq, reduceCtorEq, not_false_eq_true, Bool.false_eq_true, Bool.true_eq_false, Bool.not_true, Bool.not_false, notInt, numB, tabB, ↓vyB, ↓opY, roA, liveA, lvB, frz, frz1, true_or, Array.reduceGetElem?, upG, up, nth, lay, rcB, rnm, rnmL, wrB, pcB]
  refine codeY_loop (pl := np) tabOk follows_mixed (by kernel_rfl) (fun x g t h => ∃ (j : Nat → Value), g = .run 0 ∧ t = ⟨14, [(0, .v (.func (.yield l) #[] #[])), (5, .ptr 1 0)], j⟩ ∧ h = [.cells false [.v (.map none)], .iter (.v (.map none)) 0 [] 0]) ?_ ?_
  · intro d
    refine into_mk [some 0, some 1] [(0, .v (.func (.yield l) #[] #[])), (5, .ptr 1 0)] [.cells false [.v (.map none)], .iter (.v (.map none)) 0 [] 0] ?_ ?_ ?_ ?_ ?_ ?_ ?_ fun j => ⟨rfl, 0, j, rfl, rfl, rfl⟩
    · simp [slot, lkL, fixed, rg, renH, chEq, lookH, eqvL, eqv, eqvF, rnmL, rnm, liveN, Chunk.live, goodH, Chunk.good, okL, ok, sz, szL, storL, stor, renT, okT]
    · simp [slot, lkL, fixed, rg, renH, chEq, lookH, eqvL, eqv, eqvF, rnmL, rnm, liveN, Chunk.live, goodH, Chunk.good, okL, ok, sz, szL, storL, stor, renT, okT]
    · simp [slot, lkL, fixed, rg, renH, chB, lookH, eqvL, eqv, eqvF, rnmL, rnm, liveN, lvB, goodH, gdB, okL, ok, sz, szL, storL, stor, renT, okT, pcB]
    · simp [slot, lkL, fixed, rg, renH, chEq, lookH, eqvL, eqv, eqvF, rnmL, rnm, liveN, Chunk.live, goodH, Chunk.good, okL, ok, sz, szL, storL, stor, renT, okT]
    · simp [slot, lkL, fixed, rg, renH, chB, lookH, eqvL, eqv, eqvF, rnmL, rnm, liveN, lvB, goodH, gdB, okL, ok, sz, szL, storL, stor, renT, okT, pcB, Value.oneCell']
    · simp [slot, lkL, fixed, rg, renH, chEq, lookH, eqvL, eqv, eqvF, rnmL, rnm, liveN, Chunk.live, goodH, Chunk.good, okL, ok, sz, szL, storL, stor, renT, okT]
    · simp [slot, lkL, fixed, rg, renH, chEq, lookH, eqvL, eqv, eqvF, rnmL, rnm, liveN, Chunk.live, goodH, Chunk.good, okL, ok, sz, szL, storL, stor, renT, okT]
  · rintro x g t h ⟨j, rfl, rfl, rfl⟩
    simp -implicitDefEqProofs (maxSteps := 1000000) (disch := omega) only [↓vcB, ↓gd, ↓opP, ↓qv, ↓ef, ↓bslS, ↓stS, ↓mkS, ↓rangeS, ↓nextS, ↓entryS, ↓delS, ↓mupS, ↓appS, ↓s2bS, ↓resS, evB, Sx.look, slot, ↓lkL, putS, putO, argsL, ↓reduceIte, ofV, of1, lookH, putH, List.length_cons, List.length_nil, List.length_append, List.replicate, List.append, List.cons_append, List.nil_append, List.append_assoc, List.map_cons, List.map_nil, convS, fldA, nthT, idxA, idxS, fldS, oslN, bnd, slS, unS, valI, lenS, lookS, takeC, psB, asRow, csB, Int.toNat_natCast, Int.le_refl, and_self, rdF, Ent.row, ldS, sz, szL, wrF, bldF, plT, bldS, srcS, nilS, nilEq, mapC, binH, binS2, structS, eqL, eqF, binS, arrS, isI, tupS, stor, storL, Value.oneCell', minS, maxS, capS, true_and, and_true, Nat.reduceAdd, Nat.reduceSub, Nat.reduceMul, Nat.reduceLT, Nat.reduceLeDiff, Nat.reduceEqDiff, Nat.reduceBEq, Int.reduceToNat, Int.reduceNeg, Nat.zero_add, Nat.add_zero, Nat.sub_self, Nat.sub_zero, Nat.zero_mul, Nat.mul_one, Nat.zero_le, if_true, if_false, reduceIte, stays, inL, same1, qn, ldN, convN, lenN, List.mem_cons, List.not_mem_nil, Option.map_some, Option.map_none, cond_true, cond_false, Sx.imp_true, Sx.imp_false, implies_true, Int.reduceEq, Int.reduceNe, Int.reduceLE, Int.reduceLT, decide_true, decide_false, List.zipIdx_cons, List.zipIdx_nil, or_false, false_or, forall_eq_or_imp, forall_eq, ne_eq, reduceCtorEq, not_false_eq_true, Bool.false_eq_true, Bool.true_eq_false, Bool.not_true, Bool.not_false, notInt, numB, tabB, ↓vyB, ↓opY, roA, liveA, lvB, frz, frz1, true_or, Array.reduceGetElem?, upG, up, nth, lay, rcB, rnm, rnmL, wrB, pcB]
    exact .inl ⟨_, ⟨[], Pl.nil 0, rfl, rfl⟩, rfl⟩
theorem seqR110n {P : Pr} (hP : P.p = Try.prog) {qs : List Nat} {h : List Chunk} {k1 : Nat} {w1 : Bool} {ks : Nat → (List UInt8)} (h1 : lookH h k1 = .cells w1 [.v (.map none)]) (m1 : k1 ∈ qs) : SeqR P qs h (.fn (.func 110) [] [.ptr k1 0]) (keyR 0 fun j => den (fun _ => ⟨0, 0, 0, true⟩) (.str ⟨⟨ks j⟩⟩)) (keyF 0) := by
  intro ρ w X hk hH
  obtain ⟨ρ', B', e1, e2, e3, e4, e5⟩ := caps1 (B := fun _ => False) hH h1 m1 (fun b hb => hb.elim) (fun b hb => hb.elim) (s1' := .v (.map none)) (fun _ => rfl)
  rw [hP]
  refine ⟨110, denL ρ [.ptr k1 0], B', rfl, ?_, e5⟩
  rw [← e1]
  exact gives110n ks e3 e4
theorem c92 (m : Nat) (h : List Chunk) (K : Tok → SV → List Chunk → Prop) (hK : K .mk (.fn (.func 110) [] [.ptr h.length 0]) (h ++ [.cells true [.mp m]])) : callP Try.prog 92 [.mp m] h K := by
  refine callP_of_code tabOk Try.func92 (by kernel_rfl) rfl (Nat.le_of_ble_eq_true rfl) (codeP_of_vc (pl := np) tabOk follows_mixed (by kernel_rfl) ?_)
  rw [Try.ntmps92]
  simp -implicitDefEqProofs (maxSteps := 1000000) (disch := omega) only [↓vcB, ↓gd, ↓opP, ↓qv, ↓ef, ↓bslS, ↓stS, ↓mkS, ↓rangeS, ↓nextS, ↓entryS, ↓delS, ↓mupS, ↓appS, ↓s2bS, ↓resS, evB, Sx.look, slot, ↓lkL, putS, putO, argsL, ↓reduceIte, ofV, of1, lookH, putH, List.length_cons, List.length_nil, List.length_append, List.replicate, List.append, List.cons_append, List.nil_append, List.append_assoc, List.map_cons, List.map_nil, convS, fldA, nthT, idxA, idxS, fldS, oslN, bnd, slS, unS, valI, lenS, lookS, takeC, psB, asRow, csB, Int.toNat_natCast, Int.le_refl, and_self, rdF, Ent.row, ldS, sz, szL, wrF, bldF, plT, bldS, srcS, nilS, nilEq, mapC, binH, binS2, structS, eqL, eqF, binS, arrS, isI, tupS, stor, storL, Value.oneCell', minS, maxS, capS, true_and, and_true, Nat.reduceAdd, Nat.reduceSub, Nat.reduceMul, Nat.reduceLT, Nat.reduceLeDiff, Nat.reduceEqDiff, Nat.reduceBEq, Int.reduceToNat, Int.reduceNeg, Nat.zero_add, Nat.add_zero, Nat.sub_self, Nat.sub_zero, Nat.zero_mul, Nat.mul_one, Nat.zero_le, if_true, if_false, reduceIte, stays, inL, same1, qn, ldN, convN, lenN, List.mem_cons, List.not_mem_nil, Option.map_some, Option.map_none, cond_true, cond_false, Sx.imp_true, Sx.imp_false, implies_true, Int.reduceEq, Int.reduceNe, Int.reduceLE, Int.reduceLT, decide_true, decide_false, List.zipIdx_cons, List.zipIdx_nil, or_false, false_or, forall_eq_or_imp, forall_eq, ne_eq, reduceCtorEq, not_false_eq_true, Bool.false_eq_true, Bool.true_eq_false, Bool.not_true, Bool.not_false, notInt, numB, tabB, Array.reduceGetElem?, upG, up, nth, lay, rcB, rnm, rnmL, wrB, pcB, res92, Value.oneCell']
  exact intoR_refl (by simp) hK
theorem c92n (h : List Chunk) (K : Tok → SV → List Chunk → Prop) (hK : K .mk (.fn (.func 110) [] [.ptr h.length 0]) (h ++ [.cells true [.v (.map none)]])) : callP Try.prog 92 [.v (.map none)] h K := by
  refine callP_of_code tabOk Try.func92 (by kernel_rfl) rfl (Nat.le_of_ble_eq_true rfl) (codeP_of_vc (pl := np) tabOk follows_mixed (by kernel_rfl) ?_)
  rw [Try.ntmps92]
  simp -implicitDefEqProofs (maxSteps := 1000000) (disch := omega) only [↓vcB, ↓gd, ↓opP, ↓qv, ↓ef, ↓bslS, ↓stS, ↓mkS, ↓rangeS, ↓nextS, ↓entryS, ↓delS, ↓mupS, ↓appS, ↓s2bS, ↓resS, evB, Sx.look, slot, ↓lkL, putS, putO, argsL, ↓reduceIte, ofV, of1, lookH, putH, List.length_cons, List.length_nil, List.length_append, List.replicate, List.append, List.cons_append, List.nil_append, List.append_assoc, List.map_cons, List.map_nil, convS, fldA, nthT, idxA, idxS, fldS, oslN, bnd, slS, unS, valI, lenS, lookS, takeC, psB, asRow, csB, Int.toNat_natCast, Int.le_refl, and_self, rdF, Ent.row, ldS, sz, szL, wrF, bldF, plT, bldS, srcS, nilS, nilEq, mapC, binH, binS2, structS, eqL, eqF, binS, arrS, isI, tupS, stor, storL, Value.oneCell', minS, maxS, capS, true_and, and_true, Nat.reduceAdd, Nat.reduceSub, Nat.reduceMul, Nat.reduceLT, Nat.reduceLeDiff, Nat.reduceEqDiff, Nat.reduceBEq, Int.reduceToNat, Int.reduceNeg, Nat.zero_add, Nat.add_zero, Nat.sub_self, Nat.sub_zero, Nat.zero_mul, Nat.mul_one, Nat.zero_le, if_true, if_false, reduceIte, stays, inL, same1, qn, ldN, convN, lenN, List.mem_cons, List.not_mem_nil, Option.map_some, Option.map_none, cond_true, cond_false, Sx.imp_true, Sx.imp_false, implies_true, Int.reduceEq, Int.reduceNe, Int.reduceLE, Int.reduceLT, decide_true, decide_false, List.zipIdx_cons, List.zipIdx_nil, or_false, false_or, forall_eq_or_imp, forall_eq, ne_eq, reduceCtorEq, not_false_eq_true, Bool.false_eq_true, Bool.true_eq_false, Bool.not_true, Bool.not_false, notInt, numB, tabB, Array.reduceGetElem?, upG, up, nth, lay, rcB, rnm, rnmL, wrB, pcB, res92, Value.oneCell']
  exact intoR_refl (by simp) hK

theorem res61 : Try.f61.results.toList = [.tmp 2] := rfl
theorem c61m (L : List (List UInt8)) (hn : L.length ≤ 1000) (S : List (List UInt8)) (hS : S = L.mergeSort fun x y => decide (x ≤ y)) (h : List Chunk) (p m : Nat) (w : Bool) (val : Nat → SV) (born : Nat → Nat) (clock : Nat) (hb : Bn L.length born clock) (hp : lookH h p = .cells w [.mp m]) (hm : lookH h m = .map L.length (fun i => .str ⟨⟨L.getD i default⟩⟩) val born clock) (K : Tok → SV → List Chunk → Prop)
    (hK : K .mk (.fn (.func 107) [] [.ptr (h.length + 2) 0]) (h ++ [.cells true [.mp m], .row true S.length 1 fun i => .str ⟨⟨S.getD i default⟩⟩, .cells true [.osl (h.length + 1) 0 0 1 S.length]])) : callP Try.prog 61 [.ptr p 0] h K := by
  have hm1 : lookH (h ++ [.cells true [.mp m]]) m = .map L.length (fun i => .str ⟨⟨L.getD i default⟩⟩) val born clock := lookH_old _ _ _ hm (by simp)
  have hk1 : lookH (h ++ [.cells true [.mp m]]) h.length = .cells true [.mp m] := lookH_app0 _ _
  refine callP_of_code tabOk Try.func61 (by kernel_rfl) rfl (Nat.le_of_ble_eq_true rfl) (codeP_of_vc (pl := np) tabOk follows_mixed (by kernel_rfl) ?_)
  rw [Try.ntmps61]
  simp -implicitDefEqProofs (maxSteps := 1000000) (disch := omega) only [↓vcB, ↓gd, ↓opP, ↓qv, ↓ef, ↓bslS, ↓stS, ↓mkS, ↓rangeS, ↓nextS, ↓entryS, ↓delS, ↓mupS, ↓appS, ↓s2bS, ↓resS, evB, Sx.look, slot, ↓lkL, putS, putO, argsL, ↓reduceIte, ofV, of1, lookH, putH, List.length_cons, List.length_nil, List.length_append, List.replicate, List.append, List.cons_append, List.nil_append, List.append_assoc, List.map_cons, List.map_nil, convS, fldA, nthT, idxA, idxS, fldS, oslN, bnd, slS, unS, valI, lenS, lookS, takeC, psB, asRow, csB, Int.toNat_natCast, Int.le_refl, and_self, rdF, Ent.row, ldS, sz, szL, wrF, bldF, plT, bldS, srcS, nilS, nilEq, mapC, binH, binS2, structS, eqL, eqF, binS, arrS, isI, tupS, stor, storL, Value.oneCell', minS, maxS, capS, true_and, and_true, Nat.reduceAdd, Nat.reduceSub, Nat.reduceMul, Nat.reduceLT, Nat.reduceLeDiff, Nat.reduceEqDiff, Nat.reduceBEq, Int.reduceToNat, Int.reduceNeg, Nat.zero_add, Nat.add_zero, Nat.sub_self, Nat.sub_zero, Nat.zero_mul, Nat.mul_one, Nat.zero_le, if_true, if_false, reduceIte, stays, inL, same1, qn, ldN, convN, lenN, List.mem_cons, List.not_mem_nil, Option.map_some, Option.map_none, cond_true, cond_false, Sx.imp_true, Sx.imp_false, implies_true, Int.reduceEq, Int.reduceNe, Int.reduceLE, Int.reduceLT, decide_true, decide_false, List.zipIdx_cons, List.zipIdx_nil, or_false, false_or, forall_eq_or_imp, forall_eq, ne_eq, reduceCtorEq, not_false_eq_true, Bool.false_eq_true, Bool.true_eq_false, Bool.not_true, Bool.not_false, notInt, numB, tabB, Array.reduceGetElem?, upG, up, nth, lay, rcB, rnm, rnmL, wrB, pcB, Option.isNone, res61, hp, hm]
  refine c92 m _ _ ?_
  simp -implicitDefEqProofs (maxSteps := 1000000) (disch := omega) only [↓vcB, ↓gd, ↓opP, ↓qv, ↓ef, ↓bslS, ↓stS, ↓mkS, ↓rangeS, ↓nextS, ↓entryS, ↓delS, ↓mupS, ↓appS, ↓s2bS, ↓resS, evB, Sx.look, slot, ↓lkL, putS, putO, argsL, ↓reduceIte, ofV, of1, lookH, putH, List.length_cons, List.length_nil, List.length_append, List.replicate, List.append, List.cons_append, List.nil_append, List.append_assoc, List.map_cons, List.map_nil, convS, fldA, nthT, idxA, idxS, fldS, oslN, bnd, slS, unS, valI, lenS, lookS, takeC, psB, asRow, csB, Int.toNat_natCast, Int.le_refl, and_self, rdF, Ent.row, ldS, sz, szL, wrF, bldF, plT, bldS, srcS, nilS, nilEq, mapC, binH, binS2, structS, eqL, eqF, binS, arrS, isI, tupS, stor, storL, Value.oneCell', minS, maxS, capS, true_and, and_true, Nat.reduceAdd, Nat.reduceSub, Nat.reduceMul, Nat.reduceLT, Nat.reduceLeDiff, Nat.reduceEqDiff, Nat.reduceBEq, Int.reduceToNat, Int.reduceNeg, Nat.zero_add, Nat.add_zero, Nat.sub_self, Nat.sub_zero, Nat.zero_mul, Nat.mul_one, Nat.zero_le, if_true, if_false, reduceIte, stays, inL, same1, qn, ldN, convN, lenN, List.mem_cons, List.not_mem_nil, Option.map_some, Option.map_none, cond_true, cond_false, Sx.imp_true, Sx.imp_false, implies_true, Int.reduceEq, Int.reduceNe, Int.reduceLE, Int.reduceLT, decide_true, decide_false, List.zipIdx_cons, List.zipIdx_nil, or_false, false_or, forall_eq_or_imp, forall_eq, ne_eq, reduceCtorEq, not_false_eq_true, Bool.false_eq_true, Bool.true_eq_false, Bool.not_true, Bool.not_false, notInt, numB, tabB, Array.reduceGetElem?, upG, up, nth, lay, rcB, rnm, rnmL, wrB, pcB, Option.isNone, res61, hp, hm]
  refine c91 (n := L.length) (ks := fun i => L.getD i default) hn (seqR110 rfl (qs := [h.length, m]) hb hk1 hm1 (by simp) (by simp)) S (by rw [map_getD]; exact hS) _ ?_
  simp -implicitDefEqProofs (maxSteps := 1000000) (disch := omega) only [↓vcB, ↓gd, ↓opP, ↓qv, ↓ef, ↓bslS, ↓stS, ↓mkS, ↓rangeS, ↓nextS, ↓entryS, ↓delS, ↓mupS, ↓appS, ↓s2bS, ↓resS, evB, Sx.look, slot, ↓lkL, putS, putO, argsL, ↓reduceIte, ofV, of1, lookH, putH, List.length_cons, List.length_nil, List.length_append, List.replicate, List.append, List.cons_append, List.nil_append, List.append_assoc, List.map_cons, List.map_nil, convS, fldA, nthT, idxA, idxS, fldS, oslN, bnd, slS, unS, valI, lenS, lookS, takeC, psB, asRow, csB, Int.toNat_natCast, Int.le_refl, and_self, rdF, Ent.row, ldS, sz, szL, wrF, bldF, plT, bldS, srcS, nilS, nilEq, mapC, binH, binS2, structS, eqL, eqF, binS, arrS, isI, tupS, stor, storL, Value.oneCell', minS, maxS, capS, true_and, and_true, Nat.reduceAdd, Nat.reduceSub, Nat.reduceMul, Nat.reduceLT, Nat.reduceLeDiff, Nat.reduceEqDiff, Nat.reduceBEq, Int.reduceToNat, Int.reduceNeg, Nat.zero_add, Nat.add_zero, Nat.sub_self, Nat.sub_zero, Nat.zero_mul, Nat.mul_one, Nat.zero_le, if_true, if_false, reduceIte, stays, inL, same1, qn, ldN, convN, lenN, List.mem_cons, List.not_mem_nil, Option.map_some, Option.map_none, cond_true, cond_false, Sx.imp_true, Sx.imp_false, implies_true, Int.reduceEq, Int.reduceNe, Int.reduceLE, Int.reduceLT, decide_true, decide_false, List.zipIdx_cons, List.zipIdx_nil, or_false, false_or, forall_eq_or_imp, forall_eq, ne_eq, reduceCtorEq, not_false_eq_true, Bool.false_eq_true, Bool.true_eq_false, Bool.not_true, Bool.not_false, notInt, numB, tabB, Array.reduceGetElem?, upG, up, nth, lay, rcB, rnm, rnmL, wrB, pcB, Option.isNone, res61, hp, hm]
  refine c90 _ _ S.length _ ?_
  simp -implicitDefEqProofs (maxSteps := 1000000) (disch := omega) only [↓vcB, ↓gd, ↓opP, ↓qv, ↓ef, ↓bslS, ↓stS, ↓mkS, ↓rangeS, ↓nextS, ↓entryS, ↓delS, ↓mupS, ↓appS, ↓s2bS, ↓resS, evB, Sx.look, slot, ↓lkL, putS, putO, argsL, ↓reduceIte, ofV, of1, lookH, putH, List.length_cons, List.length_nil, List.length_append, List.replicate, List.append, List.cons_append, List.nil_append, List.append_assoc, List.map_cons, List.map_nil, convS, fldA, nthT, idxA, idxS, fldS, oslN, bnd, slS, unS, valI, lenS, lookS, takeC, psB, asRow, csB, Int.toNat_natCast, Int.le_refl, and_self, rdF, Ent.row, ldS, sz, szL, wrF, bldF, plT, bldS, srcS, nilS, nilEq, mapC, binH, binS2, structS, eqL, eqF, binS, arrS, isI, tupS, stor, storL, Value.oneCell', minS, maxS, capS, true_and, and_true, Nat.reduceAdd, Nat.reduceSub, Nat.reduceMul, Nat.reduceLT, Nat.reduceLeDiff, Nat.reduceEqDiff, Nat.reduceBEq, Int.reduceToNat, Int.reduceNeg, Nat.zero_add, Nat.add_zero, Nat.sub_self, Nat.sub_zero, Nat.zero_mul, Nat.mul_one, Nat.zero_le, if_true, if_false, reduceIte, stays, inL, same1, qn, ldN, convN, lenN, List.mem_cons, List.not_mem_nil, Option.map_some, Option.map_none, cond_true, cond_false, Sx.imp_true, Sx.imp_false, implies_true, Int.reduceEq, Int.reduceNe, Int.reduceLE, Int.reduceLT, decide_true, decide_false, List.zipIdx_cons, List.zipIdx_nil, or_false, false_or, forall_eq_or_imp, forall_eq, ne_eq, reduceCtorEq, not_false_eq_true, Bool.false_eq_true, Bool.true_eq_false, Bool.not_true, Bool.not_false, notInt, numB, tabB, Array.reduceGetElem?, upG, up, nth, lay, rcB, rnm, rnmL, wrB, pcB, Option.isNone, res61, hp, hm]
  exact intoR_refl (by simp) hK
theorem c61n (h : List Chunk) (p : Nat) (w : Bool) (hp : lookH h p = .cells w [.v (.map none)]) (K : Tok → SV → List Chunk → Prop)
    (hK : K .mk (.fn (.func 107) [] [.ptr (h.length + 2) 0]) (h ++ [.cells true [.v (.map none)], .row true ([] : List (List UInt8)).length 1 fun i => .str ⟨⟨([] : List (List UInt8)).getD i default⟩⟩, .cells true [.osl (h.length + 1) 0 0 1 ([] : List (List UInt8)).length]])) : callP Try.prog 61 [.ptr p 0] h K := by
  have hk1 : lookH (h ++ [.cells true [.v (.map none)]]) h.length = .cells true [.v (.map none)] := lookH_app0 _ _
  refine callP_of_code tabOk Try.func61 (by kernel_rfl) rfl (Nat.le_of_ble_eq_true rfl) (codeP_of_vc (pl := np) tabOk follows_mixed (by kernel_rfl) ?_)
  rw [Try.ntmps61]
  simp -implicitDefEqProofs (maxSteps := 1000000) (disch := omega) only [↓vcB, ↓gd, ↓opP, ↓qv, ↓ef, ↓bslS, ↓stS, ↓mkS, ↓rangeS, ↓nextS, ↓entryS, ↓delS, ↓mupS, ↓appS, ↓s2bS, ↓resS, evB, Sx.look, slot, ↓lkL, putS, putO, argsL, ↓reduceIte, ofV, of1, lookH, putH, List.length_cons, List.length_nil, List.length_append, List.replicate, List.append, List.cons_append, List.nil_append, List.append_assoc, List.map_cons, List.map_nil, convS, fldA, nthT, idxA, idxS, fldS, oslN, bnd, slS, unS, valI, lenS, lookS, takeC, psB, asRow, csB, Int.toNat_natCast, Int.le_refl, and_self, rdF, Ent.row, ldS, sz, szL, wrF, bldF, plT, bldS, srcS, nilS, nilEq, mapC, binH, binS2, structS, eqL, eqF, binS, arrS, isI, tupS, stor, storL, Value.oneCell', minS, maxS, capS, true_and, and_true, Nat.reduceAdd, Nat.reduceSub, Nat.reduceMul, Nat.reduceLT, Nat.reduceLeDiff, Nat.reduceEqDiff, Nat.reduceBEq, Int.reduceToNat, Int.reduceNeg, Nat.zero_add, Nat.add_zero, Nat.sub_self, Nat.sub_zero, Nat.zero_mul, Nat.mul_one, Nat.zero_le, if_true, if_false, reduceIte, stays, inL, same1, qn, ldN, convN, lenN, List.mem_cons, List.not_mem_nil, Option.map_some, Option.map_none, cond_true, cond_false, Sx.imp_true, Sx.imp_false, implies_true, Int.reduceEq, Int.reduceNe, Int.reduceLE, Int.reduceLT, decide_true, decide_false, List.zipIdx_cons, List.zipIdx_nil, or_false, false_or, forall_eq_or_imp, forall_eq, ne_eq, reduceCtorEq, not_false_eq_true, Bool.false_eq_true, Bool.true_eq_false, Bool.not_true, Bool.not_false, notInt, numB, tabB, Array.reduceGetElem?, upG, up, nth, lay, rcB, rnm, rnmL, wrB, pcB, Option.isNone, res61, hp]
  refine c92n _ _ ?_
  simp -implicitDefEqProofs (maxSteps := 1000000) (disch := omega) only [↓vcB, ↓gd, ↓opP, ↓qv, ↓ef, ↓bslS, ↓stS, ↓mkS, ↓rangeS, ↓nextS, ↓entryS, ↓delS, ↓mupS, ↓appS, ↓s2bS, ↓resS, evB, Sx.look, slot, ↓lkL, putS, putO, argsL, ↓reduceIte, ofV, of1, lookH, putH, List.length_cons, List.length_nil, List.length_append, List.replicate, List.append, List.cons_append, List.nil_append, List.append_assoc, List.map_cons, List.map_nil, convS, fldA, nthT, idxA, idxS, fldS, oslN, bnd, slS, unS, valI, lenS, lookS, takeC, psB, asRow, csB, Int.toNat_natCast, Int.le_refl, and_self, rdF, Ent.row, ldS, sz, szL, wrF, bldF, plT, bldS, srcS, nilS, nilEq, mapC, binH, binS2, structS, eqL, eqF, binS, arrS, isI, tupS, stor, storL, Value.oneCell', minS, maxS, capS, true_and, and_true, Nat.reduceAdd, Nat.reduceSub, Nat.reduceMul, Nat.reduceLT, Nat.reduceLeDiff, Nat.reduceEqDiff, Nat.reduceBEq, Int.reduceToNat, Int.reduceNeg, Nat.zero_add, Nat.add_zero, Nat.sub_self, Nat.sub_zero, Nat.zero_mul, Nat.mul_one, Nat.zero_le, if_true, if_false, reduceIte, stays, inL, same1, qn, ldN, convN, lenN, List.mem_cons, List.not_mem_nil, Option.map_some, Option.map_none, cond_true, cond_false, Sx.imp_true, Sx.imp_false, implies_true, Int.reduceEq, Int.reduceNe, Int.reduceLE, Int.reduceLT, decide_true, decide_false, List.zipIdx_cons, List.zipIdx_nil, or_false, false_or, forall_eq_or_imp, forall_eq, ne_eq, reduceCtorEq, not_false_eq_true, Bool.false_eq_true, Bool.true_eq_false, Bool.not_true, Bool.not_false, notInt, numB, tabB, Array.reduceGetElem?, upG, up, nth, lay, rcB, rnm, rnmL, wrB, pcB, Option.isNone, res61, hp]
  refine c91 (n := 0) (ks := fun _ => default) (by omega) (seqR110n rfl (qs := [h.length]) hk1 (by simp)) ([] : List (List UInt8)) (by simp) _ ?_
  simp -implicitDefEqProofs (maxSteps := 1000000) (disch := omega) only [↓vcB, ↓gd, ↓opP, ↓qv, ↓ef, ↓bslS, ↓stS, ↓mkS, ↓rangeS, ↓nextS, ↓entryS, ↓delS, ↓mupS, ↓appS, ↓s2bS, ↓resS, evB, Sx.look, slot, ↓lkL, putS, putO, argsL, ↓reduceIte, ofV, of1, lookH, putH, List.length_cons, List.length_nil, List.length_append, List.replicate, List.append, List.cons_append, List.nil_append, List.append_assoc, List.map_cons, List.map_nil, convS, fldA, nthT, idxA, idxS, fldS, oslN, bnd, slS, unS, valI, lenS, lookS, takeC, psB, asRow, csB, Int.toNat_natCast, Int.le_refl, and_self, rdF, Ent.row, ldS, sz, szL, wrF, bldF, plT, bldS, srcS, nilS, nilEq, mapC, binH, binS2, structS, eqL, eqF, binS, arrS, isI, tupS, stor, storL, Value.oneCell', minS, maxS, capS, true_and, and_true, Nat.reduceAdd, Nat.reduceSub, Nat.reduceMul, Nat.reduceLT, Nat.reduceLeDiff, Nat.reduceEqDiff, Nat.reduceBEq, Int.reduceToNat, Int.reduceNeg, Nat.zero_add, Nat.add_zero, Nat.sub_self, Nat.sub_zero, Nat.zero_mul, Nat.mul_one, Nat.zero_le, if_true, if_false, reduceIte, stays, inL, same1, qn, ldN, convN, lenN, List.mem_cons, List.not_mem_nil, Option.map_some, Option.map_none, cond_true, cond_false, Sx.imp_true, Sx.imp_false, implies_true, Int.reduceEq, Int.reduceNe, Int.reduceLE, Int.reduceLT, decide_true, decide_false, List.zipIdx_cons, List.zipIdx_nil, or_false, false_or, forall_eq_or_imp, forall_eq, ne_eq, reduceCtorEq, not_false_eq_true, Bool.false_eq_true, Bool.true_eq_false, Bool.not_true, Bool.not_false, notInt, numB, tabB, Array.reduceGetElem?, upG, up, nth, lay, rcB, rnm, rnmL, wrB, pcB, Option.isNone, res61, hp]
  refine c90 _ _ 0 _ ?_
  simp -implicitDefEqProofs (maxSteps := 1000000) (disch := omega) only [↓vcB, ↓gd, ↓opP, ↓qv, ↓ef, ↓bslS, ↓stS, ↓mkS, ↓rangeS, ↓nextS, ↓entryS, ↓delS, ↓mupS, ↓appS, ↓s2bS, ↓resS, evB, Sx.look, slot, ↓lkL, putS, putO, argsL, ↓reduceIte, ofV, of1, lookH, putH, List.length_cons, List.length_nil, List.length_append, List.replicate, List.append, List.cons_append, List.nil_append, List.append_assoc, List.map_cons, List.map_nil, convS, fldA, nthT, idxA, idxS, fldS, oslN, bnd, slS, unS, valI, lenS, lookS, takeC, psB, asRow, csB, Int.toNat_natCast, Int.le_refl, and_self, rdF, Ent.row, ldS, sz, szL, wrF, bldF, plT, bldS, srcS, nilS, nilEq, mapC, binH, binS2, structS, eqL, eqF, binS, arrS, isI, tupS, stor, storL, Value.oneCell', minS, maxS, capS, true_and, and_true, Nat.reduceAdd, Nat.reduceSub, Nat.reduceMul, Nat.reduceLT, Nat.reduceLeDiff, Nat.reduceEqDiff, Nat.reduceBEq, Int.reduceToNat, Int.reduceNeg, Nat.zero_add, Nat.add_zero, Nat.sub_self, Nat.sub_zero, Nat.zero_mul, Nat.mul_one, Nat.zero_le, if_true, if_false, reduceIte, stays, inL, same1, qn, ldN, convN, lenN, List.mem_cons, List.not_mem_nil, Option.map_some, Option.map_none, cond_true, cond_false, Sx.imp_true, Sx.imp_false, implies_true, Int.reduceEq, Int.reduceNe, Int.reduceLE, Int.reduceLT, decide_true, decide_false, List.zipIdx_cons, List.zipIdx_nil, or_false, false_or, forall_eq_or_imp, forall_eq, ne_eq, reduceCtorEq, not_false_eq_true, Bool.false_eq_true, Bool.true_eq_false, Bool.not_true, Bool.not_false, notInt, numB, tabB, Array.reduceGetElem?, upG, up, nth, lay, rcB, rnm, rnmL, wrB, pcB, Option.isNone, res61, hp]
  exact intoR_refl (by simp) hK
end Go.Proofs.Ytloinbebkhcndaa

set_option linter.all false
set_option maxRecDepth 40000
namespace Go.Proofs.Ytloinbebkhcndaa
open Go Go.Sx

section
variable {α : Type} [DecidableEq α]
/-- A list into which one comes that isn't there. -/
def ins (D : List α) (x : α) : List α := if x ∈ D then D else D ++ [x]
end
theorem bn_snoc {n : Nat} {born : Nat → Nat} {clock : Nat} (h : Bn n born clock) : Bn (n + 1) (fun j => if j < n then born j else clock) (clock + 1) := by
  refine ⟨fun j hj => ?_, fun i j hi hj he => ?_⟩
  · simp only
    split
    · rename_i h1; have := h.1 j h1; omega
    · omega
  · simp only at he
    split at he <;> split at he
    · exact h.2 i j (by assumption) (by assumption) he
    · have := h.1 i (by assumption); omega
    · have := h.1 j (by assumption); omega
    · omega
theorem bn_zero (born : Nat → Nat) (clock : Nat) : Bn 0 born clock := ⟨fun j hj => absurd hj (by omega), fun i j hi => absurd hi (by omega)⟩
theorem bn_one : Bn 1 (fun _ => 0) 1 := ⟨fun j _ => Nat.zero_lt_one, fun i j hi hj _ => by omega⟩
end Go.Proofs.Ytloinbebkhcndaa

set_option linter.all false
set_option maxRecDepth 40000
namespace Go.Proofs.Ytloinbebkhcndaa
open Go Go.Sx
end Go.Proofs.Ytloinbebkhcndaa

set_option linter.all false
set_option maxRecDepth 40000
namespace Go.Proofs.Ytloinbebkhcndaa
open Go Go.Sx

theorem res58 : Try.f58.results.toList = [.tmp 4] := rfl
theorem res56 : Try.f56.results.toList = [.tmp 4] := rfl
theorem res59 : Try.f59.results.toList = [.tmp 2] := rfl
def pl58 : Nat → Plan := fun _ => .nil

def pl56 : Nat → Plan := fun _ => .nil

/-- Has, of a set that is not empty ever. -/
theorem c58 (x : (List UInt8)) (L : List (List UInt8)) (h : List Chunk) (p m : Nat) (w : Bool) (born : Nat → Nat) (clock : Nat) (hp : lookH h p = .cells w [.mp m]) (hm : lookH h m = .map L.length (fun i => sS (L.getD i default)) (fun _ => .int .i64 1) born clock) (b : Bool) (hb : b = decide (x ∈ L)) (K : Tok → SV → List Chunk → Prop) (hK : K .mk (.bool b) h) :
    callP Try.prog 58 [.ptr p 0, sS x] h K := by
  have hks := keysS_L (d := default) keyT x L
  have hf := mfind_L (d := default) keyT x L
  have hkk : keyS tab 9 (sS x) := trivial
  refine callP_of_code tabOk Try.func58 (by kernel_rfl) rfl (Nat.le_of_ble_eq_true rfl) (codeP_of_vc (pl := pl58) tabOk follows_mixed (by kernel_rfl) ?_)
  rw [Try.ntmps58]
  cases hq : L.findIdx? (x == ·) with
  | none =>
    have hbf : b = false := by rw [hb, decide_eq_false]; exact find_none.1 hq
    rw [hq] at hf
    rw [hbf] at hK
    simp -implicitDefEqProofs (maxSteps := 1000000) (disch := omega) only [↓vcB, ↓gd, ↓opP, ↓qv, ↓ef, ↓bslS, ↓stS, ↓mkS, ↓rangeS, ↓nextS, ↓entryS, ↓delS, ↓mupS, ↓appS, ↓s2bS, ↓resS, evB, Sx.look, slot, ↓lkL, putS, putO, argsL, ↓reduceIte, ofV, of1, lookH, putH, List.length_cons, List.length_nil, List.length_append, List.replicate, List.append, List.cons_append, List.nil_append, List.append_assoc, List.map_cons, List.map_nil, convS, fldA, nthT, idxA, idxS, fldS, oslN, bnd, slS, unS, valI, lenS, lookS, takeC, psB, asRow, csB, Int.toNat_natCast, Int.le_refl, and_self, rdF, Ent.row, ldS, sz, szL, wrF, bldF, plT, bldS, srcS, nilS, nilEq, mapC, binH, binS2, structS, eqL, eqF, binS, arrS, isI, tupS, stor, storL, Value.oneCell', minS, maxS, capS, true_and, and_true, Nat.reduceAdd, Nat.reduceSub, Nat.reduceMul, Nat.reduceLT, Nat.reduceLeDiff, Nat.reduceEqDiff, Nat.reduceBEq, Int.reduceToNat, Int.reduceNeg, Nat.zero_add, Nat.add_zero, Nat.sub_self, Nat.sub_zero, Nat.zero_mul, Nat.mul_one, Nat.zero_le, if_true, if_false, reduceIte, stays, inL, same1, qn, ldN, convN, lenN, List.mem_cons, List.not_mem_nil, Option.map_some, Option.map_none, cond_true, cond_false, Sx.imp_true, Sx.imp_false, implies_true, Int.reduceEq, Int.reduceNe, Int.reduceLE, Int.reduceLT, decide_true, decide_false, List.zipIdx_cons, List.zipIdx_nil, or_false, false_or, forall_eq_or_imp, forall_eq, ne_eq, reduceCtorEq, not_false_eq_true, Bool.false_eq_true, Bool.true_eq_false, Bool.not_true, Bool.not_false, notInt, numB, tabB, Array.reduceGetElem?, upG, up, nth, lay, rcB, rnm, rnmL, wrB, pcB, Option.isNone, res58, pl58, hp, hm, hf, hks, hkk, zero1]
    exact intoR_refl (Nat.le_refl _) hK
  | some i =>
    obtain ⟨hi, he⟩ := find_some hq
    have hbf : b = true := by rw [hb, decide_eq_true]; rw [← he]; exact List.getElem_mem hi
    rw [hq] at hf
    rw [hbf] at hK
    simp -implicitDefEqProofs (maxSteps := 1000000) (disch := omega) only [↓vcB, ↓gd, ↓opP, ↓qv, ↓ef, ↓bslS, ↓stS, ↓mkS, ↓rangeS, ↓nextS, ↓entryS, ↓delS, ↓mupS, ↓appS, ↓s2bS, ↓resS, evB, Sx.look, slot, ↓lkL, putS, putO, argsL, ↓reduceIte, ofV, of1, lookH, putH, List.length_cons, List.length_nil, List.length_append, List.replicate, List.append, List.cons_append, List.nil_append, List.append_assoc, List.map_cons, List.map_nil, convS, fldA, nthT, idxA, idxS, fldS, oslN, bnd, slS, unS, valI, lenS, lookS, takeC, psB, asRow, csB, Int.toNat_natCast, Int.le_refl, and_self, rdF, Ent.row, ldS, sz, szL, wrF, bldF, plT, bldS, srcS, nilS, nilEq, mapC, binH, binS2, structS, eqL, eqF, binS, arrS, isI, tupS, stor, storL, Value.oneCell', minS, maxS, capS, true_and, and_true, Nat.reduceAdd, Nat.reduceSub, Nat.reduceMul, Nat.reduceLT, Nat.reduceLeDiff, Nat.reduceEqDiff, Nat.reduceBEq, Int.reduceToNat, Int.reduceNeg, Nat.zero_add, Nat.add_zero, Nat.sub_self, Nat.sub_zero, Nat.zero_mul, Nat.mul_one, Nat.zero_le, if_true, if_false, reduceIte, stays, inL, same1, qn, ldN, convN, lenN, List.mem_cons, List.not_mem_nil, Option.map_some, Option.map_none, cond_true, cond_false, Sx.imp_true, Sx.imp_false, implies_true, Int.reduceEq, Int.reduceNe, Int.reduceLE, Int.reduceLT, decide_true, decide_false, List.zipIdx_cons, List.zipIdx_nil, or_false, false_or, forall_eq_or_imp, forall_eq, ne_eq, reduceCtorEq, not_false_eq_true, Bool.false_eq_true, Bool.true_eq_false, Bool.not_true, Bool.not_false, notInt, numB, tabB, Array.reduceGetElem?, upG, up, nth, lay, rcB, rnm, rnmL, wrB, pcB, Option.isNone, res58, pl58, hp, hm, hf, hks, hkk, one1]
    exact intoR_refl (Nat.le_refl _) hK
theorem c58n (x : (List UInt8)) (h : List Chunk) (p : Nat) (w : Bool) (hp : lookH h p = .cells w [.v (.map none)]) (K : Tok → SV → List Chunk → Prop) (hK : K .mk (.bool false) h) : callP Try.prog 58 [.ptr p 0, sS x] h K := by
  have hkk : keyS tab 9 (sS x) := trivial
  refine callP_of_code tabOk Try.func58 (by kernel_rfl) rfl (Nat.le_of_ble_eq_true rfl) (codeP_of_vc (pl := pl58) tabOk follows_mixed (by kernel_rfl) ?_)
  rw [Try.ntmps58]
  simp -implicitDefEqProofs (maxSteps := 1000000) (disch := omega) only [↓vcB, ↓gd, ↓opP, ↓qv, ↓ef, ↓bslS, ↓stS, ↓mkS, ↓rangeS, ↓nextS, ↓entryS, ↓delS, ↓mupS, ↓appS, ↓s2bS, ↓resS, evB, Sx.look, slot, ↓lkL, putS, putO, argsL, ↓reduceIte, ofV, of1, lookH, putH, List.length_cons, List.length_nil, List.length_append, List.replicate, List.append, List.cons_append, List.nil_append, List.append_assoc, List.map_cons, List.map_nil, convS, fldA, nthT, idxA, idxS, fldS, oslN, bnd, slS, unS, valI, lenS, lookS, takeC, psB, asRow, csB, Int.toNat_natCast, Int.le_refl, and_self, rdF, Ent.row, ldS, sz, szL, wrF, bldF, plT, bldS, srcS, nilS, nilEq, mapC, binH, binS2, structS, eqL, eqF, binS, arrS, isI, tupS, stor, storL, Value.oneCell', minS, maxS, capS, true_and, and_true, Nat.reduceAdd, Nat.reduceSub, Nat.reduceMul, Nat.reduceLT, Nat.reduceLeDiff, Nat.reduceEqDiff, Nat.reduceBEq, Int.reduceToNat, Int.reduceNeg, Nat.zero_add, Nat.add_zero, Nat.sub_self, Nat.sub_zero, Nat.zero_mul, Nat.mul_one, Nat.zero_le, if_true, if_false, reduceIte, stays, inL, same1, qn, ldN, convN, lenN, List.mem_cons, List.not_mem_nil, Option.map_some, Option.map_none, cond_true, cond_false, Sx.imp_true, Sx.imp_false, implies_true, Int.reduceEq, Int.reduceNe, Int.reduceLE, Int.reduceLT, decide_true, decide_false, List.zipIdx_cons, List.zipIdx_nil, or_false, false_or, forall_eq_or_imp, forall_eq, ne_eq, reduceCtorEq, not_false_eq_true, Bool.false_eq_true, Bool.true_eq_false, Bool.not_true, Bool.not_false, notInt, numB, tabB, Array.reduceGetElem?, upG, up, nth, lay, rcB, rnm, rnmL, wrB, pcB, Option.isNone, res58, pl58, hp, hkk, zero1]
  exact intoR_refl (Nat.le_refl _) hK
/-- Add, of what is in it. -/
theorem c56p (x : (List UInt8)) (L : List (List UInt8)) (h : List Chunk) (p m : Nat) (w : Bool) (born : Nat → Nat) (clock : Nat) (hp : lookH h p = .cells w [.mp m]) (hm : lookH h m = .map L.length (fun i => sS (L.getD i default)) (fun _ => .int .i64 1) born clock) (hx : x ∈ L) (K : Tok → SV → List Chunk → Prop) (hK : K .mk (.bool false) h) :
    callP Try.prog 56 [.ptr p 0, sS x] h K := by
  refine callP_of_code tabOk Try.func56 (by kernel_rfl) rfl (Nat.le_of_ble_eq_true rfl) (codeP_of_vc (pl := pl56) tabOk follows_mixed (by kernel_rfl) ?_)
  rw [Try.ntmps56]
  simp -implicitDefEqProofs (maxSteps := 1000000) (disch := omega) only [↓vcB, ↓gd, ↓opP, ↓qv, ↓ef, ↓bslS, ↓stS, ↓mkS, ↓rangeS, ↓nextS, ↓entryS, ↓delS, ↓mupS, ↓appS, ↓s2bS, ↓resS, evB, Sx.look, slot, ↓lkL, putS, putO, argsL, ↓reduceIte, ofV, of1, lookH, putH, List.length_cons, List.length_nil, List.length_append, List.replicate, List.append, List.cons_append, List.nil_append, List.append_assoc, List.map_cons, List.map_nil, convS, fldA, nthT, idxA, idxS, fldS, oslN, bnd, slS, unS, valI, lenS, lookS, takeC, psB, asRow, csB, Int.toNat_natCast, Int.le_refl, and_self, rdF, Ent.row, ldS, sz, szL, wrF, bldF, plT, bldS, srcS, nilS, nilEq, mapC, binH, binS2, structS, eqL, eqF, binS, arrS, isI, tupS, stor, storL, Value.oneCell', minS, maxS, capS, true_and, and_true, Nat.reduceAdd, Nat.reduceSub, Nat.reduceMul, Nat.reduceLT, Nat.reduceLeDiff, Nat.reduceEqDiff, Nat.reduceBEq, Int.reduceToNat, Int.reduceNeg, Nat.zero_add, Nat.add_zero, Nat.sub_self, Nat.sub_zero, Nat.zero_mul, Nat.mul_one, Nat.zero_le, if_true, if_false, reduceIte, stays, inL, same1, qn, ldN, convN, lenN, List.mem_cons, List.not_mem_nil, Option.map_some, Option.map_none, cond_true, cond_false, Sx.imp_true, Sx.imp_false, implies_true, Int.reduceEq, Int.reduceNe, Int.reduceLE, Int.reduceLT, decide_true, decide_false, List.zipIdx_cons, List.zipIdx_nil, or_false, false_or, forall_eq_or_imp, forall_eq, ne_eq, reduceCtorEq, not_false_eq_true, Bool.false_eq_true, Bool.true_eq_false, Bool.not_true, Bool.not_false, notInt, numB, tabB, Array.reduceGetElem?, upG, up, nth, lay, rcB, rnm, rnmL, wrB, pcB, Option.isNone, res56, pl56]
  refine c58 x L _ p m w born clock hp hm true (decide_eq_true hx).symm _ ?_
  simp -implicitDefEqProofs (maxSteps := 1000000) (disch := omega) only [↓vcB, ↓gd, ↓opP, ↓qv, ↓ef, ↓bslS, ↓stS, ↓mkS, ↓rangeS, ↓nextS, ↓entryS, ↓delS, ↓mupS, ↓appS, ↓s2bS, ↓resS, evB, Sx.look, slot, ↓lkL, putS, putO, argsL, ↓reduceIte, ofV, of1, lookH, putH, List.length_cons, List.length_nil, List.length_append, List.replicate, List.append, List.cons_append, List.nil_append, List.append_assoc, List.map_cons, List.map_nil, convS, fldA, nthT, idxA, idxS, fldS, oslN, bnd, slS, unS, valI, lenS, lookS, takeC, psB, asRow, csB, Int.toNat_natCast, Int.le_refl, and_self, rdF, Ent.row, ldS, sz, szL, wrF, bldF, plT, bldS, srcS, nilS, nilEq, mapC, binH, binS2, structS, eqL, eqF, binS, arrS, isI, tupS, stor, storL, Value.oneCell', minS, maxS, capS, true_and, and_true, Nat.reduceAdd, Nat.reduceSub, Nat.reduceMul, Nat.reduceLT, Nat.reduceLeDiff, Nat.reduceEqDiff, Nat.reduceBEq, Int.reduceToNat, Int.reduceNeg, Nat.zero_add, Nat.add_zero, Nat.sub_self, Nat.sub_zero, Nat.zero_mul, Nat.mul_one, Nat.zero_le, if_true, if_false, reduceIte, stays, inL, same1, qn, ldN, convN, lenN, List.mem_cons, List.not_mem_nil, Option.map_some, Option.map_none, cond_true, cond_false, Sx.imp_true, Sx.imp_false, implies_true, Int.reduceEq, Int.reduceNe, Int.reduceLE, Int.reduceLT, decide_true, decide_false, List.zipIdx_cons, List.zipIdx_nil, or_false, false_or, forall_eq_or_imp, forall_eq, ne_eq, reduceCtorEq, not_false_eq_true, Bool.false_eq_true, Bool.true_eq_false, Bool.not_true, Bool.not_false, notInt, numB, tabB, Array.reduceGetElem?, upG, up, nth, lay, rcB, rnm, rnmL, wrB, pcB, Option.isNone, res56, pl56]
  exact intoR_refl (Nat.le_refl _) hK
/-- Add, of what is not. -/
theorem c56a (x : (List UInt8)) (L : List (List UInt8)) (h : List Chunk) (p m : Nat) (w : Bool) (born : Nat → Nat) (clock : Nat) (hp : lookH h p = .cells w [.mp m]) (hm : lookH h m = .map L.length (fun i => sS (L.getD i default)) (fun _ => .int .i64 1) born clock) (hx : x ∉ L) (K : Tok → SV → List Chunk → Prop)
    (hK : K .mk (.bool true) (putH h m (.map (L.length + 1) (fun j => if j < L.length then sS (L.getD j default) else sS x) (fun _ => .int .i64 1) (fun j => if j < L.length then born j else clock) (clock + 1)))) :
    callP Try.prog 56 [.ptr p 0, sS x] h K := by
  have hks := keysS_L (d := default) keyT x L
  have hf := mfind_L (d := default) keyT x L
  have hkk : keyS tab 9 (sS x) := trivial
  rw [find_none.2 hx] at hf
  refine callP_of_code tabOk Try.func56 (by kernel_rfl) rfl (Nat.le_of_ble_eq_true rfl) (codeP_of_vc (pl := pl56) tabOk follows_mixed (by kernel_rfl) ?_)
  rw [Try.ntmps56]
  simp -implicitDefEqProofs (maxSteps := 1000000) (disch := omega) only [↓vcB, ↓gd, ↓opP, ↓qv, ↓ef, ↓bslS, ↓stS, ↓mkS, ↓rangeS, ↓nextS, ↓entryS, ↓delS, ↓mupS, ↓appS, ↓s2bS, ↓resS, evB, Sx.look, slot, ↓lkL, putS, putO, argsL, ↓reduceIte, ofV, of1, lookH, putH, List.length_cons, List.length_nil, List.length_append, List.replicate, List.append, List.cons_append, List.nil_append, List.append_assoc, List.map_cons, List.map_nil, convS, fldA, nthT, idxA, idxS, fldS, oslN, bnd, slS, unS, valI, lenS, lookS, takeC, psB, asRow, csB, Int.toNat_natCast, Int.le_refl, and_self, rdF, Ent.row, ldS, sz, szL, wrF, bldF, plT, bldS, srcS, nilS, nilEq, mapC, binH, binS2, structS, eqL, eqF, binS, arrS, isI, tupS, stor, storL, Value.oneCell', minS, maxS, capS, true_and, and_true, Nat.reduceAdd, Nat.reduceSub, Nat.reduceMul, Nat.reduceLT, Nat.reduceLeDiff, Nat.reduceEqDiff, Nat.reduceBEq, Int.reduceToNat, Int.reduceNeg, Nat.zero_add, Nat.add_zero, Nat.sub_self, Nat.sub_zero, Nat.zero_mul, Nat.mul_one, Nat.zero_le, if_true, if_false, reduceIte, stays, inL, same1, qn, ldN, convN, lenN, List.mem_cons, List.not_mem_nil, Option.map_some, Option.map_none, cond_true, cond_false, Sx.imp_true, Sx.imp_false, implies_true, Int.reduceEq, Int.reduceNe, Int.reduceLE, Int.reduceLT, decide_true, decide_false, List.zipIdx_cons, List.zipIdx_nil, or_false, false_or, forall_eq_or_imp, forall_eq, ne_eq, reduceCtorEq, not_false_eq_true, Bool.false_eq_true, Bool.true_eq_false, Bool.not_true, Bool.not_false, notInt, numB, tabB, Array.reduceGetElem?, upG, up, nth, lay, rcB, rnm, rnmL, wrB, pcB, Option.isNone, res56, pl56]
  refine c58 x L _ p m w born clock hp hm false (decide_eq_false hx).symm _ ?_
  simp -implicitDefEqProofs (maxSteps := 1000000) (disch := omega) only [↓vcB, ↓gd, ↓opP, ↓qv, ↓ef, ↓bslS, ↓stS, ↓mkS, ↓rangeS, ↓nextS, ↓entryS, ↓delS, ↓mupS, ↓appS, ↓s2bS, ↓resS, evB, Sx.look, slot, ↓lkL, putS, putO, argsL, ↓reduceIte, ofV, of1, lookH, putH, List.length_cons, List.length_nil, List.length_append, List.replicate, List.append, List.cons_append, List.nil_append, List.append_assoc, List.map_cons, List.map_nil, convS, fldA, nthT, idxA, idxS, fldS, oslN, bnd, slS, unS, valI, lenS, lookS, takeC, psB, asRow, csB, Int.toNat_natCast, Int.le_refl, and_self, rdF, Ent.row, ldS, sz, szL, wrF, bldF, plT, bldS, srcS, nilS, nilEq, mapC, binH, binS2, structS, eqL, eqF, binS, arrS, isI, tupS, stor, storL, Value.oneCell', minS, maxS, capS, true_and, and_true, Nat.reduceAdd, Nat.reduceSub, Nat.reduceMul, Nat.reduceLT, Nat.reduceLeDiff, Nat.reduceEqDiff, Nat.reduceBEq, Int.reduceToNat, Int.reduceNeg, Nat.zero_add, Nat.add_zero, Nat.sub_self, Nat.sub_zero, Nat.zero_mul, Nat.mul_one, Nat.zero_le, if_true, if_false, reduceIte, stays, inL, same1, qn, ldN, convN, lenN, List.mem_cons, List.not_mem_nil, Option.map_some, Option.map_none, cond_true, cond_false, Sx.imp_true, Sx.imp_false, implies_true, Int.reduceEq, Int.reduceNe, Int.reduceLE, Int.reduceLT, decide_true, decide_false, List.zipIdx_cons, List.zipIdx_nil, or_false, false_or, forall_eq_or_imp, forall_eq, ne_eq, reduceCtorEq, not_false_eq_true, Bool.false_eq_true, Bool.true_eq_false, Bool.not_true, Bool.not_false, notInt, numB, tabB, Array.reduceGetElem?, upG, up, nth, lay, rcB, rnm, rnmL, wrB, pcB, Option.isNone, res56, pl56, hp, hm, hf, hks, hkk, ite_self]
  exact intoR_refl (by rw [putH_len]; exact Nat.le_refl _) hK
/-- Add, the first ever. -/
theorem c56n (x : (List UInt8)) (h : List Chunk) (p : Nat) (hp : lookH h p = .cells true [.v (.map none)]) (K : Tok → SV → List Chunk → Prop)
    (hK : K .mk (.bool true) (putH h p (.cells true [.mp h.length]) ++ [.map 1 (fun _ => sS x) (fun _ => .int .i64 1) (fun _ => 0) 1])) :
    callP Try.prog 56 [.ptr p 0, sS x] h K := by
  have hks : keysS tab 9 (sS x) 0 (fun _ => .tup []) := fun i hi => absurd hi (Nat.not_lt_zero _)
  have hf : mfind tab 9 (sS x) 0 (fun _ => .tup []) = none := rfl
  have hkk : keyS tab 9 (sS x) := trivial
  have hpl := lookH_lt hp (by simp)
  have k1 : ∀ l, lookH (h ++ l) p = .cells true [.v (.map none)] := fun l => lookH_old l p _ hp (by simp)
  have k2 : ∀ l c, putH (h ++ l) p c = putH h p c ++ l := fun l c => putH_old l c hpl
  have k3 : ∀ l c, lookH (putH h p c ++ l) p = c ∨ c = .none := fun l c => (Classical.em (c = .none)).elim .inr fun hc => .inl (lookH_old l p c (lookH_put_same c hpl) hc)
  have k4 : ∀ l c, lookH (putH h p c ++ l) h.length = lookH l 0 := fun l c => by rw [← putH_length h p c]; exact lookH_app0 l _
  have k5 : ∀ l c c', putH (putH h p c ++ l) h.length c' = putH h p c ++ putH l 0 c' := fun l c c' => by rw [← putH_length h p c]; exact putH_app0 l c' _
  have k6 : ∀ l, lookH (putH h p (.cells true [.mp h.length]) ++ l) p = .cells true [.mp h.length] := fun l => (k3 l _).elim id fun h => by cases h
  have hmc : (Value.map none).cells.size = 1 := rfl
  refine callP_of_code tabOk Try.func56 (by kernel_rfl) rfl (Nat.le_of_ble_eq_true rfl) (codeP_of_vc (pl := pl56) tabOk follows_mixed (by kernel_rfl) ?_)
  rw [Try.ntmps56]
  simp -implicitDefEqProofs (maxSteps := 1000000) (disch := omega) only [↓vcB, ↓gd, ↓opP, ↓qv, ↓ef, ↓bslS, ↓stS, ↓mkS, ↓rangeS, ↓nextS, ↓entryS, ↓delS, ↓mupS, ↓appS, ↓s2bS, ↓resS, evB, Sx.look, slot, ↓lkL, putS, putO, argsL, ↓reduceIte, ofV, of1, lookH, putH, List.length_cons, List.length_nil, List.length_append, List.replicate, List.append, List.cons_append, List.nil_append, List.append_assoc, List.map_cons, List.map_nil, convS, fldA, nthT, idxA, idxS, fldS, oslN, bnd, slS, unS, valI, lenS, lookS, takeC, psB, asRow, csB, Int.toNat_natCast, Int.le_refl, and_self, rdF, Ent.row, ldS, sz, szL, wrF, bldF, plT, bldS, srcS, nilS, nilEq, mapC, binH, binS2, structS, eqL, eqF, binS, arrS, isI, tupS, stor, storL, Value.oneCell', minS, maxS, capS, true_and, and_true, Nat.reduceAdd, Nat.reduceSub, Nat.reduceMul, Nat.reduceLT, Nat.reduceLeDiff, Nat.reduceEqDiff, Nat.reduceBEq, Int.reduceToNat, Int.reduceNeg, Nat.zero_add, Nat.add_zero, Nat.sub_self, Nat.sub_zero, Nat.zero_mul, Nat.mul_one, Nat.zero_le, if_true, if_false, reduceIte, stays, inL, same1, qn, ldN, convN, lenN, List.mem_cons, List.not_mem_nil, Option.map_some, Option.map_none, cond_true, cond_false, Sx.imp_true, Sx.imp_false, implies_true, Int.reduceEq, Int.reduceNe, Int.reduceLE, Int.reduceLT, decide_true, decide_false, List.zipIdx_cons, List.zipIdx_nil, or_false, false_or, forall_eq_or_imp, forall_eq, ne_eq, reduceCtorEq, not_false_eq_true, Bool.false_eq_true, Bool.true_eq_false, Bool.not_true, Bool.not_false, notInt, numB, tabB, Array.reduceGetElem?, upG, up, nth, lay, rcB, rnm, rnmL, wrB, pcB, Option.isNone, res56, pl56]
  refine c58n x _ p true hp _ ?_
  simp -implicitDefEqProofs (maxSteps := 1000000) (disch := omega) only [↓vcB, ↓gd, ↓opP, ↓qv, ↓ef, ↓bslS, ↓stS, ↓mkS, ↓rangeS, ↓nextS, ↓entryS, ↓delS, ↓mupS, ↓appS, ↓s2bS, ↓resS, evB, Sx.look, slot, ↓lkL, putS, putO, argsL, ↓reduceIte, ofV, of1, lookH, putH, List.length_cons, List.length_nil, List.length_append, List.replicate, List.append, List.cons_append, List.nil_append, List.append_assoc, List.map_cons, List.map_nil, convS, fldA, nthT, idxA, idxS, fldS, oslN, bnd, slS, unS, valI, lenS, lookS, takeC, psB, asRow, csB, Int.toNat_natCast, Int.le_refl, and_self, rdF, Ent.row, ldS, sz, szL, wrF, bldF, plT, bldS, srcS, nilS, nilEq, mapC, binH, binS2, structS, eqL, eqF, binS, arrS, isI, tupS, stor, storL, Value.oneCell', minS, maxS, capS, true_and, and_true, Nat.reduceAdd, Nat.reduceSub, Nat.reduceMul, Nat.reduceLT, Nat.reduceLeDiff, Nat.reduceEqDiff, Nat.reduceBEq, Int.reduceToNat, Int.reduceNeg, Nat.zero_add, Nat.add_zero, Nat.sub_self, Nat.sub_zero, Nat.zero_mul, Nat.mul_one, Nat.zero_le, if_true, if_false, reduceIte, stays, inL, same1, qn, ldN, convN, lenN, List.mem_cons, List.not_mem_nil, Option.map_some, Option.map_none, cond_true, cond_false, Sx.imp_true, Sx.imp_false, implies_true, Int.reduceEq, Int.reduceNe, Int.reduceLE, Int.reduceLT, decide_true, decide_false, List.zipIdx_cons, List.zipIdx_nil, or_false, false_or, forall_eq_or_imp, forall_eq, ne_eq, reduceCtorEq, not_false_eq_true, Bool.false_eq_true, Bool.true_eq_false, Bool.not_true, Bool.not_false, notInt, numB, tabB, Array.reduceGetElem?, upG, up, nth, lay, rcB, rnm, rnmL, wrB, pcB, Option.isNone, res56, pl56, hp, hf, hks, hkk, hmc, k1, k2, k4, k5, k6, Nat.not_lt_zero, Nat.le_refl]
  exact intoR_refl (by simp [putH_len]) hK
theorem c59 (n : Nat) (key val : Nat → SV) (h : List Chunk) (p m : Nat) (w : Bool) (born : Nat → Nat) (clock : Nat) (hp : lookH h p = .cells w [.mp m]) (hm : lookH h m = .map n key val born clock) (K : Tok → SV → List Chunk → Prop) (hK : K .mk (.int .i64 (n : Nat)) h) : callP Try.prog 59 [.ptr p 0] h K := by
  refine callP_of_code tabOk Try.func59 (by kernel_rfl) rfl (Nat.le_of_ble_eq_true rfl) (codeP_of_vc (pl := np) tabOk follows_mixed (by kernel_rfl) ?_)
  rw [Try.ntmps59]
  simp -implicitDefEqProofs (maxSteps := 1000000) (disch := omega) only [↓vcB, ↓gd, ↓opP, ↓qv, ↓ef, ↓bslS, ↓stS, ↓mkS, ↓rangeS, ↓nextS, ↓entryS, ↓delS, ↓mupS, ↓appS, ↓s2bS, ↓resS, evB, Sx.look, slot, ↓lkL, putS, putO, argsL, ↓reduceIte, ofV, of1, lookH, putH, List.length_cons, List.length_nil, List.length_append, List.replicate, List.append, List.cons_append, List.nil_append, List.append_assoc, List.map_cons, List.map_nil, convS, fldA, nthT, idxA, idxS, fldS, oslN, bnd, slS, unS, valI, lenS, lookS, takeC, psB, asRow, csB, Int.toNat_natCast, Int.le_refl, and_self, rdF, Ent.row, ldS, sz, szL, wrF, bldF, plT, bldS, srcS, nilS, nilEq, mapC, binH, binS2, structS, eqL, eqF, binS, arrS, isI, tupS, stor, storL, Value.oneCell', minS, maxS, capS, true_and, and_true, Nat.reduceAdd, Nat.reduceSub, Nat.reduceMul, Nat.reduceLT, Nat.reduceLeDiff, Nat.reduceEqDiff, Nat.reduceBEq, Int.reduceToNat, Int.reduceNeg, Nat.zero_add, Nat.add_zero, Nat.sub_self, Nat.sub_zero, Nat.zero_mul, Nat.mul_one, Nat.zero_le, if_true, if_false, reduceIte, stays, inL, same1, qn, ldN, convN, lenN, List.mem_cons, List.not_mem_nil, Option.map_some, Option.map_none, cond_true, cond_false, Sx.imp_true, Sx.imp_false, implies_true, Int.reduceEq, Int.reduceNe, Int.reduceLE, Int.reduceLT, decide_true, decide_false, List.zipIdx_cons, List.zipIdx_nil, or_false, false_or, forall_eq_or_imp, forall_eq, ne_eq, reduceCtorEq, not_false_eq_true, Bool.false_eq_true, Bool.true_eq_false, Bool.not_true, Bool.not_false, notInt, numB, tabB, Array.reduceGetElem?, upG, up, nth, lay, rcB, rnm, rnmL, wrB, pcB, Option.isNone, res59, hp, hm]
  exact intoR_refl (Nat.le_refl _) hK
theorem c59n (h : List Chunk) (p : Nat) (w : Bool) (hp : lookH h p = .cells w [.v (.map none)]) (K : Tok → SV → List Chunk → Prop) (hK : K .mk (.int .i64 0) h) : callP Try.prog 59 [.ptr p 0] h K := by
  refine callP_of_code tabOk Try.func59 (by kernel_rfl) rfl (Nat.le_of_ble_eq_true rfl) (codeP_of_vc (pl := np) tabOk follows_mixed (by kernel_rfl) ?_)
  rw [Try.ntmps59]
  simp -implicitDefEqProofs (maxSteps := 1000000) (disch := omega) only [↓vcB, ↓gd, ↓opP, ↓qv, ↓ef, ↓bslS, ↓stS, ↓mkS, ↓rangeS, ↓nextS, ↓entryS, ↓delS, ↓mupS, ↓appS, ↓s2bS, ↓resS, evB, Sx.look, slot, ↓lkL, putS, putO, argsL, ↓reduceIte, ofV, of1, lookH, putH, List.length_cons, List.length_nil, List.length_append, List.replicate, List.append, List.cons_append, List.nil_append, List.append_assoc, List.map_cons, List.map_nil, convS, fldA, nthT, idxA, idxS, fldS, oslN, bnd, slS, unS, valI, lenS, lookS, takeC, psB, asRow, csB, Int.toNat_natCast, Int.le_refl, and_self, rdF, Ent.row, ldS, sz, szL, wrF, bldF, plT, bldS, srcS, nilS, nilEq, mapC, binH, binS2, structS, eqL, eqF, binS, arrS, isI, tupS, stor, storL, Value.oneCell', minS, maxS, capS, true_and, and_true, Nat.reduceAdd, Nat.reduceSub, Nat.reduceMul, Nat.reduceLT, Nat.reduceLeDiff, Nat.reduceEqDiff, Nat.reduceBEq, Int.reduceToNat, Int.reduceNeg, Nat.zero_add, Nat.add_zero, Nat.sub_self, Nat.sub_zero, Nat.zero_mul, Nat.mul_one, Nat.zero_le, if_true, if_false, reduceIte, stays, inL, same1, qn, ldN, convN, lenN, List.mem_cons, List.not_mem_nil, Option.map_some, Option.map_none, cond_true, cond_false, Sx.imp_true, Sx.imp_false, implies_true, Int.reduceEq, Int.reduceNe, Int.reduceLE, Int.reduceLT, decide_true, decide_false, List.zipIdx_cons, List.zipIdx_nil, or_false, false_or, forall_eq_or_imp, forall_eq, ne_eq, reduceCtorEq, not_false_eq_true, Bool.false_eq_true, Bool.true_eq_false, Bool.not_true, Bool.not_false, notInt, numB, tabB, Array.reduceGetElem?, upG, up, nth, lay, rcB, rnm, rnmL, wrB, pcB, Option.isNone, res59, hp]
  exact intoR_refl (Nat.le_refl _) hK
theorem res57 : Try.f57.results.toList = [.tmp 4] := rfl
def pl57 : Nat → Plan := fun _ => .nil

section
variable {P : Pr} (hP : P.p = Try.prog) {qs : List Nat} {h : List Chunk} {k1 k2 : Nat} {w1 w2 : Bool}
include hP
omit hP in
theorem SeqT.none (hP : P.p = Try.prog) : SeqT P qs h (.fn (.func 106) [] []) [] := fun ρ w X hk hH => by
  rw [hP]
  exact ⟨106, [], fun _ => False, rfl, gives106 _ (fun b hb => hb.elim), fun b hb => hb.elim⟩
end
end Go.Proofs.Ytloinbebkhcndaa

set_option linter.all false
set_option maxRecDepth 40000
namespace Go.Proofs.Ytloinbebkhcndaa
open Go Go.Sx
end Go.Proofs.Ytloinbebkhcndaa

set_option linter.all false
set_option maxRecDepth 40000
namespace Go.Proofs.Ytloinbebkhcndaa
open Go Go.Sx

/-! ### Sorted rows of texts -/
theorem sl_lt (x y : List UInt8) : Op.bytesLess (ByteArray.mk ⟨x⟩).toList (ByteArray.mk ⟨y⟩).toList = decide (x < y) := by
  rw [ByteArray.toList_eq, ByteArray.toList_eq]
  show Op.bytesLess x y = _
  induction x generalizing y with
  | nil => cases y <;> simp [Op.bytesLess]
  | cons a x ih =>
    cases y with
    | nil => simp [Op.bytesLess]
    | cons b y =>
      rw [Op.bytesLess, ih y]
      simp only [List.cons_lt_cons_iff]
      by_cases h1 : a < b <;> by_cases h2 : a = b <;> by_cases h3 : x < y <;> simp [h1, h2, h3]
theorem sl_eq (x y : List UInt8) : ((ByteArray.mk ⟨x⟩).toList == (ByteArray.mk ⟨y⟩).toList) = (x == y) := by rw [ByteArray.toList_eq, ByteArray.toList_eq]
abbrev Str := List UInt8
theorem str_tri (a b : Str) : a < b ∨ a = b ∨ b < a := by
  rcases Classical.em (a < b) with h | h
  · exact .inl h
  · rcases Classical.em (b < a) with h2 | h2
    · exact .inr (.inr h2)
    · exact .inr (.inl (List.le_antisymm (List.not_lt.1 h2) (List.not_lt.1 h)))
/-- Strictly rising. -/
def Ris (M : List Str) : Prop := List.Pairwise (fun a b => a < b) M
/-- at is where k belongs. -/
def AtK (M : List Str) (k : Str) (p : Nat) : Prop := p ≤ M.length ∧ (∀ j, j < p → M.getD j default < k) ∧ (p < M.length → ¬ M.getD p default < k)
theorem getD_mem' {M : List Str} {i : Nat} (h : i < M.length) : M.getD i default ∈ M := by
  rw [List.getD_eq_getElem?_getD, List.getElem?_eq_getElem h]
  exact List.getElem_mem h
theorem Ris_lt {M : List Str} (h : Ris M) {i j : Nat} (hij : i < j) (hj : j < M.length) : M.getD i default < M.getD j default := by
  have := List.pairwise_iff_getElem.1 h i j (by omega) hj hij
  simpa [List.getD_eq_getElem?_getD, List.getElem?_eq_getElem hj, List.getElem?_eq_getElem (show i < M.length by omega)] using this
theorem AtK_mem {M : List Str} {k : Str} {p : Nat} (hr : Ris M) (h : AtK M k p) : k ∈ M ↔ p < M.length ∧ M.getD p default = k := by
  constructor
  · intro hk
    obtain ⟨i, hi, rfl⟩ := List.getElem_of_mem hk
    have e : M[i] = M.getD i default := by rw [List.getD_eq_getElem?_getD, List.getElem?_eq_getElem hi]; rfl
    rw [e] at h ⊢
    rcases Nat.lt_trichotomy i p with h1 | h1 | h1
    · exact absurd (h.2.1 i h1) (List.lt_irrefl _)
    · subst h1; exact ⟨hi, rfl⟩
    · exact absurd (Ris_lt hr h1 hi) (h.2.2 (by omega))
  · rintro ⟨h1, rfl⟩
    exact getD_mem' h1
theorem take_lt {M : List Str} {k : Str} {p : Nat} (h : AtK M k p) : ∀ y ∈ M.take p, y < k := fun y hy => by
  obtain ⟨i, hi, rfl⟩ := List.getElem_of_mem hy
  rw [List.length_take] at hi
  have := h.2.1 i (by omega)
  rw [List.getElem_take]
  rwa [List.getD_eq_getElem?_getD, List.getElem?_eq_getElem (by omega)] at this
theorem drop_ge {M : List Str} {k : Str} {p : Nat} (hr : Ris M) (h : AtK M k p) : ∀ y ∈ M.drop p, ¬ y < k := fun y hy => by
  obtain ⟨i, hi, rfl⟩ := List.getElem_of_mem hy
  rw [List.length_drop] at hi
  rw [List.getElem_drop]
  have h1 := h.2.2 (by omega)
  intro h2
  rcases Nat.eq_zero_or_pos i with h0 | h0
  · subst h0
    rw [List.getD_eq_getElem?_getD, List.getElem?_eq_getElem (by omega)] at h1
    exact h1 (by simpa using h2)
  · have h3 := Ris_lt hr (show p < p + i by omega) (by omega)
    rw [List.getD_eq_getElem?_getD (l := M) (i := p + i), List.getElem?_eq_getElem (by omega)] at h3
    exact h1 (List.lt_trans h3 h2)
def insAt (M : List Str) (p : Nat) (k : Str) : List Str := M.take p ++ [k] ++ M.drop p
def delAt (M : List Str) (p : Nat) : List Str := M.take p ++ M.drop (p + 1)
theorem insAt_len (M : List Str) (p : Nat) (k : Str) (h : p ≤ M.length) : (insAt M p k).length = M.length + 1 := by
  simp [insAt]; omega
theorem delAt_len (M : List Str) (p : Nat) (h : p < M.length) : (delAt M p).length = M.length - 1 := by
  simp [delAt]; omega
theorem mem_insAt {M : List Str} {p : Nat} {k y : Str} : y ∈ insAt M p k ↔ y ∈ M ∨ y = k := by
  have : y ∈ M ↔ y ∈ M.take p ∨ y ∈ M.drop p := by rw [← List.mem_append, List.take_append_drop]
  simp only [insAt, List.mem_append, List.mem_singleton, this]
  constructor
  · rintro ((h | h) | h)
    · exact .inl (.inl h)
    · exact .inr h
    · exact .inl (.inr h)
  · rintro ((h | h) | h)
    · exact .inl (.inl h)
    · exact .inr h
    · exact .inl (.inr h)
theorem Ris_insAt {M : List Str} {p : Nat} {k : Str} (hr : Ris M) (h : AtK M k p) (hk : k ∉ M) : Ris (insAt M p k) := by
  have h0 : Ris (M.take p ++ M.drop p) := by rw [List.take_append_drop]; exact hr
  unfold Ris at h0 ⊢
  rw [List.pairwise_append] at h0
  unfold insAt
  rw [List.pairwise_append, List.pairwise_append]
  refine ⟨⟨h0.1, List.pairwise_singleton _ _, ?_⟩, h0.2.1, ?_⟩
  · intro a ha b hb
    simp only [List.mem_singleton] at hb
    subst hb
    exact take_lt h a ha
  · intro a ha b hb
    rw [List.mem_append, List.mem_singleton] at ha
    rcases ha with ha | rfl
    · exact h0.2.2 a ha b hb
    · rcases str_tri a b with h1 | h1 | h1
      · exact h1
      · subst h1; exact absurd (List.mem_of_mem_drop hb) hk
      · exact absurd h1 (drop_ge hr h b hb)
theorem delAt_erase (M : List Str) (p : Nat) : delAt M p = M.eraseIdx p := (List.eraseIdx_eq_take_drop_succ M p).symm
theorem Ris_delAt {M : List Str} {p : Nat} (hr : Ris M) : Ris (delAt M p) := by
  rw [delAt_erase]
  exact hr.sublist (List.eraseIdx_sublist M p)
theorem Ris_nodup {M : List Str} (h : Ris M) : M.Nodup := h.imp fun {a b} hab => by rintro rfl; exact List.lt_irrefl _ hab
theorem mem_delAt {M : List Str} {p : Nat} {y : Str} (hr : Ris M) (hp : p < M.length) : y ∈ delAt M p ↔ y ∈ M ∧ y ≠ M.getD p default := by
  have e : M.getD p default = M[p] := by rw [List.getD_eq_getElem?_getD, List.getElem?_eq_getElem hp]; rfl
  have hs : M = M.take p ++ M[p] :: M.drop (p + 1) := by rw [← List.drop_eq_getElem_cons hp, List.take_append_drop]
  have hnd := Ris_nodup hr
  rw [e]
  conv => rhs; lhs; rw [hs]
  rw [hs] at hnd
  rw [List.nodup_append] at hnd
  obtain ⟨_, h2, h3⟩ := hnd
  rw [List.nodup_cons] at h2
  unfold delAt
  simp only [List.mem_append, List.mem_cons]
  constructor
  · rintro (h | h)
    · exact ⟨.inl h, fun e => h3 y h M[p] (List.mem_cons_self ..) e⟩
    · exact ⟨.inr (.inr h), fun e => h2.1 (e ▸ h)⟩
  · rintro ⟨h | h | h, hne⟩
    · exact .inl h
    · exact absurd h hne
    · exact .inr h
/-- A rising row of a list's texts is that list, sorted. -/
theorem Ris_sort {M D : List Str} (hr : Ris M) (hD : D.Nodup) (hm : ∀ y, y ∈ M ↔ y ∈ D) : (D.mergeSort fun x y => decide (x ≤ y)) = M := by
  have hp : M.Perm D := (List.perm_ext_iff_of_nodup (Ris_nodup hr) hD).2 hm
  rw [← sortS_perm hp]
  exact List.mergeSort_of_pairwise (hr.imp fun {a b} hab => by simpa using List.le_of_lt hab)
theorem insAt_getD (M : List Str) (p : Nat) (k : Str) (hp : p ≤ M.length) (i : Nat) : (insAt M p k).getD i default = if i < p then M.getD i default else if i = p then k else M.getD (i - 1) default := by
  unfold insAt
  rw [List.getD_eq_getElem?_getD]
  by_cases h1 : i < p
  · rw [if_pos h1, List.getElem?_append_left (by simp; omega), List.getElem?_append_left (by simp; omega), List.getElem?_take_of_lt h1, ← List.getD_eq_getElem?_getD]
  · rw [if_neg h1]
    by_cases h2 : i = p
    · subst h2
      rw [if_pos rfl, List.getElem?_append_left (by simp; omega), List.getElem?_append_right (by simp; omega)]
      simp [Nat.min_eq_left hp]
    · rw [if_neg h2, List.getElem?_append_right (by simp; omega), List.getElem?_drop, ← List.getD_eq_getElem?_getD]
      congr 1
      simp [Nat.min_eq_left hp]
      omega
theorem delAt_getD (M : List Str) (p : Nat) (i : Nat) : (delAt M p).getD i default = M.getD (if i < p then i else i + 1) default := by
  rw [delAt_erase, List.getD_eq_getElem?_getD, List.getElem?_eraseIdx]
  split <;> rw [← List.getD_eq_getElem?_getD]
theorem erase_getD {α : Type} [Inhabited α] (D : List α) (p i : Nat) : (D.eraseIdx p).getD i default = D.getD (if i < p then i else i + 1) default := by
  rw [List.getD_eq_getElem?_getD, List.getElem?_eraseIdx]
  split <;> rw [← List.getD_eq_getElem?_getD]
theorem erase_mem {α : Type} {D : List α} (hD : D.Nodup) {p : Nat} (hp : p < D.length) {y : α} : y ∈ D.eraseIdx p ↔ y ∈ D ∧ y ≠ D[p] := by
  have hs : D = D.take p ++ D[p] :: D.drop (p + 1) := by rw [← List.drop_eq_getElem_cons hp, List.take_append_drop]
  rw [List.eraseIdx_eq_take_drop_succ]
  conv => rhs; lhs; rw [hs]
  have hnd := hD
  rw [hs] at hnd
  rw [List.nodup_append] at hnd
  obtain ⟨_, h2, h3⟩ := hnd
  rw [List.nodup_cons] at h2
  simp only [List.mem_append, List.mem_cons]
  constructor
  · rintro (h | h)
    · exact ⟨.inl h, fun e => h3 y h D[p] (List.mem_cons_self ..) e⟩
    · exact ⟨.inr (.inr h), fun e => h2.1 (e ▸ h)⟩
  · rintro ⟨h | h | h, hne⟩
    · exact .inl h
    · exact absurd h hne
    · exact .inr h
theorem bn_del {n : Nat} {born : Nat → Nat} {clock : Nat} (h : Bn n born clock) (p : Nat) : Bn (n - 1) (fun j => born (if j < p then j else j + 1)) clock := by
  refine ⟨fun j hj => h.1 _ (by split <;> omega), fun i j hi hj he => ?_⟩
  have := h.2 _ _ (by split <;> omega) (by split <;> omega) he
  split at this <;> split at this <;> omega
theorem res55 : Try.f55.results.toList = [.tmp 2] := rfl
theorem c55n (h : List Chunk) (K : Tok → SV → List Chunk → Prop) (hK : K .mk (.ptr h.length 0) (h ++ [.cells true [.v (.map none)]])) : callP Try.prog 55 [.v (.slice none 0 0)] h K := by
  refine callP_of_code tabOk Try.func55 (by kernel_rfl) rfl (Nat.le_of_ble_eq_true rfl) (codeP_of_vc (pl := np) tabOk follows_mixed (by kernel_rfl) ?_)
  rw [Try.ntmps55]
  have z1 : decide ((0 : Int) < 0) = false := rfl
  simp -implicitDefEqProofs (maxSteps := 1000000) (disch := omega) only [↓vcB, ↓gd, ↓opP, ↓qv, ↓ef, ↓bslS, ↓stS, ↓mkS, ↓rangeS, ↓nextS, ↓entryS, ↓delS, ↓mupS, ↓appS, ↓s2bS, ↓resS, evB, Sx.look, slot, ↓lkL, putS, putO, argsL, ↓reduceIte, ofV, of1, lookH, putH, List.length_cons, List.length_nil, List.length_append, List.replicate, List.append, List.cons_append, List.nil_append, List.append_assoc, List.map_cons, List.map_nil, convS, fldA, nthT, idxA, idxS, fldS, oslN, bnd, slS, unS, valI, lenS, lookS, takeC, psB, asRow, csB, Int.toNat_natCast, Int.le_refl, and_self, rdF, Ent.row, ldS, sz, szL, wrF, bldF, plT, bldS, srcS, nilS, nilEq, mapC, binH, binS2, structS, eqL, eqF, binS, arrS, isI, tupS, stor, storL, Value.oneCell', minS, maxS, capS, true_and, and_true, Nat.reduceAdd, Nat.reduceSub, Nat.reduceMul, Nat.reduceLT, Nat.reduceLeDiff, Nat.reduceEqDiff, Nat.reduceBEq, Int.reduceToNat, Int.reduceNeg, Nat.zero_add, Nat.add_zero, Nat.sub_self, Nat.sub_zero, Nat.zero_mul, Nat.mul_one, Nat.zero_le, if_true, if_false, reduceIte, stays, inL, same1, qn, ldN, convN, lenN, List.mem_cons, List.not_mem_nil, Option.map_some, Option.map_none, cond_true, cond_false, Sx.imp_true, Sx.imp_false, implies_true, Int.reduceEq, Int.reduceNe, Int.reduceLE, Int.reduceLT, decide_true, decide_false, List.zipIdx_cons, List.zipIdx_nil, or_false, false_or, forall_eq_or_imp, forall_eq, ne_eq, reduceCtorEq, not_false_eq_true, Bool.false_eq_true, Bool.true_eq_false, Bool.not_true, Bool.not_false, notInt, numB, tabB, Array.reduceGetElem?, upG, up, nth, lay, rcB, rnm, rnmL, wrB, pcB, res55, Value.oneCell', z1]
  refine codeP_rounds (pl := np) tabOk follows_mixed (by kernel_rfl) 1 ?_
  simp -implicitDefEqProofs (maxSteps := 1000000) (disch := omega) only [↓vcB, ↓gd, ↓opP, ↓qv, ↓ef, ↓bslS, ↓stS, ↓mkS, ↓rangeS, ↓nextS, ↓entryS, ↓delS, ↓mupS, ↓appS, ↓s2bS, ↓resS, evB, Sx.look, slot, ↓lkL, putS, putO, argsL, ↓reduceIte, ofV, of1, lookH, putH, List.length_cons, List.length_nil, List.length_append, List.replicate, List.append, List.cons_append, List.nil_append, List.append_assoc, List.map_cons, List.map_nil, convS, fldA, nthT, idxA, idxS, fldS, oslN, bnd, slS, unS, valI, lenS, lookS, takeC, psB, asRow, csB, Int.toNat_natCast, Int.le_refl, and_self, rdF, Ent.row, ldS, sz, szL, wrF, bldF, plT, bldS, srcS, nilS, nilEq, mapC, binH, binS2, structS, eqL, eqF, binS, arrS, isI, tupS, stor, storL, Value.oneCell', minS, maxS, capS, true_and, and_true, Nat.reduceAdd, Nat.reduceSub, Nat.reduceMul, Nat.reduceLT, Nat.reduceLeDiff, Nat.reduceEqDiff, Nat.reduceBEq, Int.reduceToNat, Int.reduceNeg, Nat.zero_add, Nat.add_zero, Nat.sub_self, Nat.sub_zero, Nat.zero_mul, Nat.mul_one, Nat.zero_le, if_true, if_false, reduceIte, stays, inL, same1, qn, ldN, convN, lenN, List.mem_cons, List.not_mem_nil, Option.map_some, Option.map_none, cond_true, cond_false, Sx.imp_true, Sx.imp_false, implies_true, Int.reduceEq, Int.reduceNe, Int.reduceLE, Int.reduceLT, decide_true, decide_false, List.zipIdx_cons, List.zipIdx_nil, or_false, false_or, forall_eq_or_imp, forall_eq, ne_eq, reduceCtorEq, not_false_eq_true, Bool.false_eq_true, Bool.true_eq_false, Bool.not_true, Bool.not_false, notInt, numB, tabB, Array.reduceGetElem?, upG, up, nth, lay, rcB, rnm, rnmL, wrB, pcB, res55, Value.oneCell', z1]
  exact intoR_refl (by simp) hK
/-- Remove. -/
theorem c57n (x : Str) (h : List Chunk) (p : Nat) (w : Bool) (hp : lookH h p = .cells w [.v (.map none)]) (K : Tok → SV → List Chunk → Prop) (hK : K .mk (.bool false) h) : callP Try.prog 57 [.ptr p 0, sS x] h K := by
  refine callP_of_code tabOk Try.func57 (by kernel_rfl) rfl (Nat.le_of_ble_eq_true rfl) (codeP_of_vc (pl := pl57) tabOk follows_mixed (by kernel_rfl) ?_)
  rw [Try.ntmps57]
  simp -implicitDefEqProofs (maxSteps := 1000000) (disch := omega) only [↓vcB, ↓gd, ↓opP, ↓qv, ↓ef, ↓bslS, ↓stS, ↓mkS, ↓rangeS, ↓nextS, ↓entryS, ↓delS, ↓mupS, ↓appS, ↓s2bS, ↓resS, evB, Sx.look, slot, ↓lkL, putS, putO, argsL, ↓reduceIte, ofV, of1, lookH, putH, List.length_cons, List.length_nil, List.length_append, List.replicate, List.append, List.cons_append, List.nil_append, List.append_assoc, List.map_cons, List.map_nil, convS, fldA, nthT, idxA, idxS, fldS, oslN, bnd, slS, unS, valI, lenS, lookS, takeC, psB, asRow, csB, Int.toNat_natCast, Int.le_refl, and_self, rdF, Ent.row, ldS, sz, szL, wrF, bldF, plT, bldS, srcS, nilS, nilEq, mapC, binH, binS2, structS, eqL, eqF, binS, arrS, isI, tupS, stor, storL, Value.oneCell', minS, maxS, capS, true_and, and_true, Nat.reduceAdd, Nat.reduceSub, Nat.reduceMul, Nat.reduceLT, Nat.reduceLeDiff, Nat.reduceEqDiff, Nat.reduceBEq, Int.reduceToNat, Int.reduceNeg, Nat.zero_add, Nat.add_zero, Nat.sub_self, Nat.sub_zero, Nat.zero_mul, Nat.mul_one, Nat.zero_le, if_true, if_false, reduceIte, stays, inL, same1, qn, ldN, convN, lenN, List.mem_cons, List.not_mem_nil, Option.map_some, Option.map_none, cond_true, cond_false, Sx.imp_true, Sx.imp_false, implies_true, Int.reduceEq, Int.reduceNe, Int.reduceLE, Int.reduceLT, decide_true, decide_false, List.zipIdx_cons, List.zipIdx_nil, or_false, false_or, forall_eq_or_imp, forall_eq, ne_eq, reduceCtorEq, not_false_eq_true, Bool.false_eq_true, Bool.true_eq_false, Bool.not_true, Bool.not_false, notInt, numB, tabB, Array.reduceGetElem?, upG, up, nth, lay, rcB, rnm, rnmL, wrB, pcB, Option.isNone, res57, pl57]
  refine c58n x _ p w hp _ ?_
  simp -implicitDefEqProofs (maxSteps := 1000000) (disch := omega) only [↓vcB, ↓gd, ↓opP, ↓qv, ↓ef, ↓bslS, ↓stS, ↓mkS, ↓rangeS, ↓nextS, ↓entryS, ↓delS, ↓mupS, ↓appS, ↓s2bS, ↓resS, evB, Sx.look, slot, ↓lkL, putS, putO, argsL, ↓reduceIte, ofV, of1, lookH, putH, List.length_cons, List.length_nil, List.length_append, List.replicate, List.append, List.cons_append, List.nil_append, List.append_assoc, List.map_cons, List.map_nil, convS, fldA, nthT, idxA, idxS, fldS, oslN, bnd, slS, unS, valI, lenS, lookS, takeC, psB, asRow, csB, Int.toNat_natCast, Int.le_refl, and_self, rdF, Ent.row, ldS, sz, szL, wrF, bldF, plT, bldS, srcS, nilS, nilEq, mapC, binH, binS2, structS, eqL, eqF, binS, arrS, isI, tupS, stor, storL, Value.oneCell', minS, maxS, capS, true_and, and_true, Nat.reduceAdd, Nat.reduceSub, Nat.reduceMul, Nat.reduceLT, Nat.reduceLeDiff, Nat.reduceEqDiff, Nat.reduceBEq, Int.reduceToNat, Int.reduceNeg, Nat.zero_add, Nat.add_zero, Nat.sub_self, Nat.sub_zero, Nat.zero_mul, Nat.mul_one, Nat.zero_le, if_true, if_false, reduceIte, stays, inL, same1, qn, ldN, convN, lenN, List.mem_cons, List.not_mem_nil, Option.map_some, Option.map_none, cond_true, cond_false, Sx.imp_true, Sx.imp_false, implies_true, Int.reduceEq, Int.reduceNe, Int.reduceLE, Int.reduceLT, decide_true, decide_false, List.zipIdx_cons, List.zipIdx_nil, or_false, false_or, forall_eq_or_imp, forall_eq, ne_eq, reduceCtorEq, not_false_eq_true, Bool.false_eq_true, Bool.true_eq_false, Bool.not_true, Bool.not_false, notInt, numB, tabB, Array.reduceGetElem?, upG, up, nth, lay, rcB, rnm, rnmL, wrB, pcB, Option.isNone, res57, pl57]
  exact intoR_refl (Nat.le_refl _) hK
theorem c57a (x : Str) (L : List Str) (h : List Chunk) (p m : Nat) (w : Bool) (born : Nat → Nat) (clock : Nat) (hp : lookH h p = .cells w [.mp m]) (hm : lookH h m = .map L.length (fun i => sS (L.getD i default)) (fun _ => .int .i64 1) born clock) (hx : x ∉ L) (K : Tok → SV → List Chunk → Prop) (hK : K .mk (.bool false) h) :
    callP Try.prog 57 [.ptr p 0, sS x] h K := by
  refine callP_of_code tabOk Try.func57 (by kernel_rfl) rfl (Nat.le_of_ble_eq_true rfl) (codeP_of_vc (pl := pl57) tabOk follows_mixed (by kernel_rfl) ?_)
  rw [Try.ntmps57]
  simp -implicitDefEqProofs (maxSteps := 1000000) (disch := omega) only [↓vcB, ↓gd, ↓opP, ↓qv, ↓ef, ↓bslS, ↓stS, ↓mkS, ↓rangeS, ↓nextS, ↓entryS, ↓delS, ↓mupS, ↓appS, ↓s2bS, ↓resS, evB, Sx.look, slot, ↓lkL, putS, putO, argsL, ↓reduceIte, ofV, of1, lookH, putH, List.length_cons, List.length_nil, List.length_append, List.replicate, List.append, List.cons_append, List.nil_append, List.append_assoc, List.map_cons, List.map_nil, convS, fldA, nthT, idxA, idxS, fldS, oslN, bnd, slS, unS, valI, lenS, lookS, takeC, psB, asRow, csB, Int.toNat_natCast, Int.le_refl, and_self, rdF, Ent.row, ldS, sz, szL, wrF, bldF, plT, bldS, srcS, nilS, nilEq, mapC, binH, binS2, structS, eqL, eqF, binS, arrS, isI, tupS, stor, storL, Value.oneCell', minS, maxS, capS, true_and, and_true, Nat.reduceAdd, Nat.reduceSub, Nat.reduceMul, Nat.reduceLT, Nat.reduceLeDiff, Nat.reduceEqDiff, Nat.reduceBEq, Int.reduceToNat, Int.reduceNeg, Nat.zero_add, Nat.add_zero, Nat.sub_self, Nat.sub_zero, Nat.zero_mul, Nat.mul_one, Nat.zero_le, if_true, if_false, reduceIte, stays, inL, same1, qn, ldN, convN, lenN, List.mem_cons, List.not_mem_nil, Option.map_some, Option.map_none, cond_true, cond_false, Sx.imp_true, Sx.imp_false, implies_true, Int.reduceEq, Int.reduceNe, Int.reduceLE, Int.reduceLT, decide_true, decide_false, List.zipIdx_cons, List.zipIdx_nil, or_false, false_or, forall_eq_or_imp, forall_eq, ne_eq, reduceCtorEq, not_false_eq_true, Bool.false_eq_true, Bool.true_eq_false, Bool.not_true, Bool.not_false, notInt, numB, tabB, Array.reduceGetElem?, upG, up, nth, lay, rcB, rnm, rnmL, wrB, pcB, Option.isNone, res57, pl57]
  refine c58 x L _ p m w born clock hp hm false (decide_eq_false hx).symm _ ?_
  simp -implicitDefEqProofs (maxSteps := 1000000) (disch := omega) only [↓vcB, ↓gd, ↓opP, ↓qv, ↓ef, ↓bslS, ↓stS, ↓mkS, ↓rangeS, ↓nextS, ↓entryS, ↓delS, ↓mupS, ↓appS, ↓s2bS, ↓resS, evB, Sx.look, slot, ↓lkL, putS, putO, argsL, ↓reduceIte, ofV, of1, lookH, putH, List.length_cons, List.length_nil, List.length_append, List.replicate, List.append, List.cons_append, List.nil_append, List.append_assoc, List.map_cons, List.map_nil, convS, fldA, nthT, idxA, idxS, fldS, oslN, bnd, slS, unS, valI, lenS, lookS, takeC, psB, asRow, csB, Int.toNat_natCast, Int.le_refl, and_self, rdF, Ent.row, ldS, sz, szL, wrF, bldF, plT, bldS, srcS, nilS, nilEq, mapC, binH, binS2, structS, eqL, eqF, binS, arrS, isI, tupS, stor, storL, Value.oneCell', minS, maxS, capS, true_and, and_true, Nat.reduceAdd, Nat.reduceSub, Nat.reduceMul, Nat.reduceLT, Nat.reduceLeDiff, Nat.reduceEqDiff, Nat.reduceBEq, Int.reduceToNat, Int.reduceNeg, Nat.zero_add, Nat.add_zero, Nat.sub_self, Nat.sub_zero, Nat.zero_mul, Nat.mul_one, Nat.zero_le, if_true, if_false, reduceIte, stays, inL, same1, qn, ldN, convN, lenN, List.mem_cons, List.not_mem_nil, Option.map_some, Option.map_none, cond_true, cond_false, Sx.imp_true, Sx.imp_false, implies_true, Int.reduceEq, Int.reduceNe, Int.reduceLE, Int.reduceLT, decide_true, decide_false, List.zipIdx_cons, List.zipIdx_nil, or_false, false_or, forall_eq_or_imp, forall_eq, ne_eq, reduceCtorEq, not_false_eq_true, Bool.false_eq_true, Bool.true_eq_false, Bool.not_true, Bool.not_false, notInt, numB, tabB, Array.reduceGetElem?, upG, up, nth, lay, rcB, rnm, rnmL, wrB, pcB, Option.isNone, res57, pl57]
  exact intoR_refl (Nat.le_refl _) hK
theorem c57p (x : Str) (L : List Str) (i : Nat) (hi : L.findIdx? (x == ·) = some i) (h : List Chunk) (p m : Nat) (w : Bool) (born : Nat → Nat) (clock : Nat) (hp : lookH h p = .cells w [.mp m]) (hm : lookH h m = .map L.length (fun i => sS (L.getD i default)) (fun _ => .int .i64 1) born clock) (K : Tok → SV → List Chunk → Prop)
    (hK : K .mk (.bool true) (putH h m (.map (L.length - 1) (fun j => sS (L.getD (if j < i then j else j + 1) default)) (fun _ => .int .i64 1) (fun j => born (if j < i then j else j + 1)) clock))) :
    callP Try.prog 57 [.ptr p 0, sS x] h K := by
  have hks := keysS_L (d := default) keyT x L
  have hf := mfind_L (d := default) keyT x L
  rw [hi] at hf
  have hkk : keyS tab 9 (sS x) := trivial
  obtain ⟨hil, he⟩ := find_some hi
  have hx : x ∈ L := by rw [← he]; exact List.getElem_mem hil
  refine callP_of_code tabOk Try.func57 (by kernel_rfl) rfl (Nat.le_of_ble_eq_true rfl) (codeP_of_vc (pl := pl57) tabOk follows_mixed (by kernel_rfl) ?_)
  rw [Try.ntmps57]
  simp -implicitDefEqProofs (maxSteps := 1000000) (disch := omega) only [↓vcB, ↓gd, ↓opP, ↓qv, ↓ef, ↓bslS, ↓stS, ↓mkS, ↓rangeS, ↓nextS, ↓entryS, ↓delS, ↓mupS, ↓appS, ↓s2bS, ↓resS, evB, Sx.look, slot, ↓lkL, putS, putO, argsL, ↓reduceIte, ofV, of1, lookH, putH, List.length_cons, List.length_nil, List.length_append, List.replicate, List.append, List.cons_append, List.nil_append, List.append_assoc, List.map_cons, List.map_nil, convS, fldA, nthT, idxA, idxS, fldS, oslN, bnd, slS, unS, valI, lenS, lookS, takeC, psB, asRow, csB, Int.toNat_natCast, Int.le_refl, and_self, rdF, Ent.row, ldS, sz, szL, wrF, bldF, plT, bldS, srcS, nilS, nilEq, mapC, binH, binS2, structS, eqL, eqF, binS, arrS, isI, tupS, stor, storL, Value.oneCell', minS, maxS, capS, true_and, and_true, Nat.reduceAdd, Nat.reduceSub, Nat.reduceMul, Nat.reduceLT, Nat.reduceLeDiff, Nat.reduceEqDiff, Nat.reduceBEq, Int.reduceToNat, Int.reduceNeg, Nat.zero_add, Nat.add_zero, Nat.sub_self, Nat.sub_zero, Nat.zero_mul, Nat.mul_one, Nat.zero_le, if_true, if_false, reduceIte, stays, inL, same1, qn, ldN, convN, lenN, List.mem_cons, List.not_mem_nil, Option.map_some, Option.map_none, cond_true, cond_false, Sx.imp_true, Sx.imp_false, implies_true, Int.reduceEq, Int.reduceNe, Int.reduceLE, Int.reduceLT, decide_true, decide_false, List.zipIdx_cons, List.zipIdx_nil, or_false, false_or, forall_eq_or_imp, forall_eq, ne_eq, reduceCtorEq, not_false_eq_true, Bool.false_eq_true, Bool.true_eq_false, Bool.not_true, Bool.not_false, notInt, numB, tabB, Array.reduceGetElem?, upG, up, nth, lay, rcB, rnm, rnmL, wrB, pcB, Option.isNone, res57, pl57]
  refine c58 x L _ p m w born clock hp hm true (decide_eq_true hx).symm _ ?_
  simp -implicitDefEqProofs (maxSteps := 1000000) (disch := omega) only [↓vcB, ↓gd, ↓opP, ↓qv, ↓ef, ↓bslS, ↓stS, ↓mkS, ↓rangeS, ↓nextS, ↓entryS, ↓delS, ↓mupS, ↓appS, ↓s2bS, ↓resS, evB, Sx.look, slot, ↓lkL, putS, putO, argsL, ↓reduceIte, ofV, of1, lookH, putH, List.length_cons, List.length_nil, List.length_append, List.replicate, List.append, List.cons_append, List.nil_append, List.append_assoc, List.map_cons, List.map_nil, convS, fldA, nthT, idxA, idxS, fldS, oslN, bnd, slS, unS, valI, lenS, lookS, takeC, psB, asRow, csB, Int.toNat_natCast, Int.le_refl, and_self, rdF, Ent.row, ldS, sz, szL, wrF, bldF, plT, bldS, srcS, nilS, nilEq, mapC, binH, binS2, structS, eqL, eqF, binS, arrS, isI, tupS, stor, storL, Value.oneCell', minS, maxS, capS, true_and, and_true, Nat.reduceAdd, Nat.reduceSub, Nat.reduceMul, Nat.reduceLT, Nat.reduceLeDiff, Nat.reduceEqDiff, Nat.reduceBEq, Int.reduceToNat, Int.reduceNeg, Nat.zero_add, Nat.add_zero, Nat.sub_self, Nat.sub_zero, Nat.zero_mul, Nat.mul_one, Nat.zero_le, if_true, if_false, reduceIte, stays, inL, same1, qn, ldN, convN, lenN, List.mem_cons, List.not_mem_nil, Option.map_some, Option.map_none, cond_true, cond_false, Sx.imp_true, Sx.imp_false, implies_true, Int.reduceEq, Int.reduceNe, Int.reduceLE, Int.reduceLT, decide_true, decide_false, List.zipIdx_cons, List.zipIdx_nil, or_false, false_or, forall_eq_or_imp, forall_eq, ne_eq, reduceCtorEq, not_false_eq_true, Bool.false_eq_true, Bool.true_eq_false, Bool.not_true, Bool.not_false, notInt, numB, tabB, Array.reduceGetElem?, upG, up, nth, lay, rcB, rnm, rnmL, wrB, pcB, Option.isNone, res57, pl57, hp, hm, hf, hks, hkk]
  exact intoR_refl (by rw [putH_len]; exact Nat.le_refl _) hK
end Go.Proofs.Ytloinbebkhcndaa
