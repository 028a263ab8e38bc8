/- Contracts of functions that the laws reach, by the symbolic executor of the texts Sxa to Syf. No condition. -/
import Derived.Test.YtloinbebkhcndaaV2
set_option linter.all false
set_option maxRecDepth 40000
namespace Go.Proofs.Ytloinbebkhcndaa
open Go Go.Sx

/-- The numbers below one. -/
theorem gives77 (n : Nat) (a : Int) (ha : a ≤ 9223372036854775807) (hn : n = a.toNat) {ρ : Env} {B : Nat → Prop} {w0 : World} (hB : ∀ b, B b → b < w0.heap.size) (hH : ∀ k c, [Chunk.cells false [.int .i64 a]][k]? = some c → Holds ρ w0 k c ∧ (Real ρ k c → B (ρ k).b)) :
    Gives Try.prog 77 (denL ρ [.ptr 0 0]) B n (fun i => .int .i64 (i : Nat)) w0 := by
  refine gives_of_codeY (P := Pr.of Try.prog) tabOk Try.func77 (by kernel_rfl) rfl res77 (Nat.le_of_ble_eq_true rfl) (by simp [slot, lkL, fixed, rg, renH, chB, lookH, eqvL, eqv, eqvF, rnmL, rnm, liveN, lvB, goodH, gdB, okL, ok, sz, szL, storL, stor, renT, okT, pcB]) (by simp [okL, ok]) (by simp [Chunk.wr]) (fun l => ?_) hB hH (fun _ _ _ => trivial) (fv := .nilFunc) (fx := fun _ => none) (nofx _)
  refine codeY_of_vc (pl := np) tabOk follows_mixed (by kernel_rfl) ?_
  rw [Try.ntmps77]
  simp -implicitDefEqProofs (maxSteps := 1000000) (disch := omega) only [↓vcB, ↓gd, ↓opP, ↓qv, ↓ef, ↓bslS, ↓stS, ↓mkS, ↓delS, ↓mupS, ↓appS, ↓s2bS, ↓resS, evB, Sx.look, slot, ↓lkL, putS, putO, argsL, ↓reduceIte, ofV, of1, lookH, putH, List.length_cons, List.length_nil, List.length_append, List.replicate, List.append, List.cons_append, List.nil_append, List.append_assoc, List.map_cons, List.map_nil, convS, fldA, nthT, idxA, idxS, fldS, oslN, bnd, slS, unS, valI, lenS, lookS, takeC, psB, asRow, csB, Int.toNat_natCast, Int.le_refl, and_self, rdF, Ent.row, ldS, sz, szL, wrF, bldF, plT, bldS, srcS, nilS, nilEq, binH, binS2, structS, eqL, eqF, binS, arrS, isI, tupS, stor, storL, Value.oneCell', minS, maxS, capS, true_and, and_true, Nat.reduceAdd, Nat.reduceSub, Nat.reduceMul, Nat.reduceLT, Nat.reduceLeDiff, Nat.reduceEqDiff, Nat.reduceBEq, Int.reduceToNat, Int.reduceNeg, Nat.zero_add, Nat.add_zero, Nat.sub_self, Nat.sub_zero, Nat.zero_mul, Nat.mul_one, Nat.zero_le, if_true, if_false, reduceIte, stays, inL, same1, qn, ldN, convN, lenN, List.mem_cons, List.not_mem_nil, Option.map_some, Option.map_none, cond_true, cond_false, Sx.imp_true, Sx.imp_false, implies_true, Int.reduceEq, Int.reduceNe, Int.reduceLE, Int.reduceLT, decide_true, decide_false, List.zipIdx_cons, List.zipIdx_nil, or_false, false_or, forall_eq_or_imp, forall_eq, ne_eq, reduceCtorEq, not_false_eq_true, Bool.false_eq_true, Bool.true_eq_false, Bool.not_true, Bool.not_false, notInt, numB, tabB, ↓vyB, ↓opY, roA, liveA, lvB, frz, frz1, true_or, Array.reduceGetElem?, upG, up, nth, lay, rcB, rnm, rnmL, wrB, pcB]
  refine codeY_loop (pl := np) tabOk follows_mixed (by kernel_rfl) (fun m g t h => ∃ (k : Nat) (j : Nat → Value), k + m = n ∧ g = .run k ∧ t = ⟨13, [(0, .v (.func (.yield l) #[] #[])), (4, .int .i64 a), (5, .int .i64 (k : Nat))], j⟩ ∧ h = [Chunk.cells false [.int .i64 a]]) ?_ ?_
  · intro d
    refine into_mk [some 0] [(0, .v (.func (.yield l) #[] #[])), (4, .int .i64 a), (5, .int .i64 (0 : Nat))] [Chunk.cells false [.int .i64 a]] ?_ ?_ ?_ ?_ ?_ ?_ ?_ ?_
    · simp [slot, lkL, fixed, rg, renH, chEq, lookH, eqvL, eqv, eqvF, rnmL, rnm, liveN, Chunk.live, goodH, Chunk.good, okL, ok, sz, szL, storL, stor, renT, okT]
    · simp [slot, lkL, fixed, rg, renH, chEq, lookH, eqvL, eqv, eqvF, rnmL, rnm, liveN, Chunk.live, goodH, Chunk.good, okL, ok, sz, szL, storL, stor, renT, okT]
    · simp [slot, lkL, fixed, rg, renH, chEq, lookH, eqvL, eqv, eqvF, rnmL, rnm, liveN, Chunk.live, goodH, Chunk.good, okL, ok, sz, szL, storL, stor, renT, okT]
    · simp [slot, lkL, fixed, rg, renH, chEq, lookH, eqvL, eqv, eqvF, rnmL, rnm, liveN, Chunk.live, goodH, Chunk.good, okL, ok, sz, szL, storL, stor, renT, okT]
    · simp [slot, lkL, fixed, rg, renH, chB, lookH, eqvL, eqv, eqvF, rnmL, rnm, liveN, lvB, goodH, gdB, okL, ok, sz, szL, storL, stor, renT, okT, pcB]
    · simp [slot, lkL, fixed, rg, renH, chEq, lookH, eqvL, eqv, eqvF, rnmL, rnm, liveN, Chunk.live, goodH, Chunk.good, okL, ok, sz, szL, storL, stor, renT, okT]
    · simp [slot, lkL, fixed, rg, renH, chEq, lookH, eqvL, eqv, eqvF, rnmL, rnm, liveN, Chunk.live, goodH, Chunk.good, okL, ok, sz, szL, storL, stor, renT, okT]
    · exact fun j => ⟨rfl, n, 0, j, by omega, rfl, rfl, rfl⟩
  · rintro m g t h ⟨k, j, hk, rfl, rfl, rfl⟩
    by_cases hlt : k < n
    · have g0 : decide ((k : Int) < a) = true := decide_eq_true (by omega)
      have a0 : IntKind.i64.wrap ((k : Int) + 1) = ((k + 1 : Nat) : Int) := by rw [wrap64 (by omega) (by omega)]; omega
      simp -implicitDefEqProofs (maxSteps := 1000000) (disch := omega) only [↓vcB, ↓gd, ↓opP, ↓qv, ↓ef, ↓bslS, ↓stS, ↓mkS, ↓delS, ↓mupS, ↓appS, ↓s2bS, ↓resS, evB, Sx.look, slot, ↓lkL, putS, putO, argsL, ↓reduceIte, ofV, of1, lookH, putH, List.length_cons, List.length_nil, List.length_append, List.replicate, List.append, List.cons_append, List.nil_append, List.append_assoc, List.map_cons, List.map_nil, convS, fldA, nthT, idxA, idxS, fldS, oslN, bnd, slS, unS, valI, lenS, lookS, takeC, psB, asRow, csB, Int.toNat_natCast, Int.le_refl, and_self, rdF, Ent.row, ldS, sz, szL, wrF, bldF, plT, bldS, srcS, nilS, nilEq, binH, binS2, structS, eqL, eqF, binS, arrS, isI, tupS, stor, storL, Value.oneCell', minS, maxS, capS, true_and, and_true, Nat.reduceAdd, Nat.reduceSub, Nat.reduceMul, Nat.reduceLT, Nat.reduceLeDiff, Nat.reduceEqDiff, Nat.reduceBEq, Int.reduceToNat, Int.reduceNeg, Nat.zero_add, Nat.add_zero, Nat.sub_self, Nat.sub_zero, Nat.zero_mul, Nat.mul_one, Nat.zero_le, if_true, if_false, reduceIte, stays, inL, same1, qn, ldN, convN, lenN, List.mem_cons, List.not_mem_nil, Option.map_some, Option.map_none, cond_true, cond_false, Sx.imp_true, Sx.imp_false, implies_true, Int.reduceEq, Int.reduceNe, Int.reduceLE, Int.reduceLT, decide_true, decide_false, List.zipIdx_cons, List.zipIdx_nil, or_false, false_or, forall_eq_or_imp, forall_eq, ne_eq, reduceCtorEq, not_false_eq_true, Bool.false_eq_true, Bool.true_eq_false, Bool.not_true, Bool.not_false, notInt, numB, tabB, ↓vyB, ↓opY, roA, liveA, lvB, frz, frz1, true_or, Array.reduceGetElem?, upG, up, nth, lay, rcB, rnm, rnmL, wrB, pcB, g0, a0]
      refine ⟨⟨hlt, fun _ => rfl⟩, ?_, endsG_stop (by omega)⟩
      intro d
      refine into_mk [some 0] [(0, .v (.func (.yield l) #[] #[])), (4, .int .i64 a), (5, .int .i64 (k + 1 : Nat))] [Chunk.cells false [.int .i64 a]] ?_ ?_ ?_ ?_ ?_ ?_ ?_ ?_
      · simp [slot, lkL, fixed, rg, renH, chEq, lookH, eqvL, eqv, eqvF, rnmL, rnm, liveN, Chunk.live, goodH, Chunk.good, okL, ok, sz, szL, storL, stor, renT, okT]
      · simp [slot, lkL, fixed, rg, renH, chEq, lookH, eqvL, eqv, eqvF, rnmL, rnm, liveN, Chunk.live, goodH, Chunk.good, okL, ok, sz, szL, storL, stor, renT, okT]
      · simp [slot, lkL, fixed, rg, renH, chEq, lookH, eqvL, eqv, eqvF, rnmL, rnm, liveN, Chunk.live, goodH, Chunk.good, okL, ok, sz, szL, storL, stor, renT, okT]
      · simp [slot, lkL, fixed, rg, renH, chEq, lookH, eqvL, eqv, eqvF, rnmL, rnm, liveN, Chunk.live, goodH, Chunk.good, okL, ok, sz, szL, storL, stor, renT, okT]
      · simp [slot, lkL, fixed, rg, renH, chB, lookH, eqvL, eqv, eqvF, rnmL, rnm, liveN, lvB, goodH, gdB, okL, ok, sz, szL, storL, stor, renT, okT, pcB]
      · simp [slot, lkL, fixed, rg, renH, chEq, lookH, eqvL, eqv, eqvF, rnmL, rnm, liveN, Chunk.live, goodH, Chunk.good, okL, ok, sz, szL, storL, stor, renT, okT]
      · simp [slot, lkL, fixed, rg, renH, chEq, lookH, eqvL, eqv, eqvF, rnmL, rnm, liveN, Chunk.live, goodH, Chunk.good, okL, ok, sz, szL, storL, stor, renT, okT]
      · exact fun j => ⟨rfl, m - 1, by omega, k + 1, j, by omega, rfl, rfl, rfl⟩
    · have hkn : k = n := by omega
      subst k
      have g0 : decide ((n : Int) < a) = false := decide_eq_false (by omega)
      simp -implicitDefEqProofs (maxSteps := 1000000) (disch := omega) only [↓vcB, ↓gd, ↓opP, ↓qv, ↓ef, ↓bslS, ↓stS, ↓mkS, ↓delS, ↓mupS, ↓appS, ↓s2bS, ↓resS, evB, Sx.look, slot, ↓lkL, putS, putO, argsL, ↓reduceIte, ofV, of1, lookH, putH, List.length_cons, List.length_nil, List.length_append, List.replicate, List.append, List.cons_append, List.nil_append, List.append_assoc, List.map_cons, List.map_nil, convS, fldA, nthT, idxA, idxS, fldS, oslN, bnd, slS, unS, valI, lenS, lookS, takeC, psB, asRow, csB, Int.toNat_natCast, Int.le_refl, and_self, rdF, Ent.row, ldS, sz, szL, wrF, bldF, plT, bldS, srcS, nilS, nilEq, binH, binS2, structS, eqL, eqF, binS, arrS, isI, tupS, stor, storL, Value.oneCell', minS, maxS, capS, true_and, and_true, Nat.reduceAdd, Nat.reduceSub, Nat.reduceMul, Nat.reduceLT, Nat.reduceLeDiff, Nat.reduceEqDiff, Nat.reduceBEq, Int.reduceToNat, Int.reduceNeg, Nat.zero_add, Nat.add_zero, Nat.sub_self, Nat.sub_zero, Nat.zero_mul, Nat.mul_one, Nat.zero_le, if_true, if_false, reduceIte, stays, inL, same1, qn, ldN, convN, lenN, List.mem_cons, List.not_mem_nil, Option.map_some, Option.map_none, cond_true, cond_false, Sx.imp_true, Sx.imp_false, implies_true, Int.reduceEq, Int.reduceNe, Int.reduceLE, Int.reduceLT, decide_true, decide_false, List.zipIdx_cons, List.zipIdx_nil, or_false, false_or, forall_eq_or_imp, forall_eq, ne_eq, reduceCtorEq, not_false_eq_true, Bool.false_eq_true, Bool.true_eq_false, Bool.not_true, Bool.not_false, notInt, numB, tabB, ↓vyB, ↓opY, roA, liveA, lvB, frz, frz1, true_or, Array.reduceGetElem?, upG, up, nth, lay, rcB, rnm, rnmL, wrB, pcB, g0]
      exact endsG_run rfl

/-- A sequence of numbers, said in a symbolic heap. -/
def SeqL (P : Pr) (qs : List Nat) (h : List Chunk) (sv : SV) (L : List Int) : Prop := SeqS P qs h sv L.length fun i => .int .i64 (L.getD i 0)
theorem caps1 {qs : List Nat} {h : List Chunk} {ρ : Env} {w : World} {X B : Nat → Prop} {k1 : Nat} {w1 : Bool} {s1 s1' : SV} (hH : ∀ k ∈ qs, Holds ρ w k (lookH h k) ∧ (Real ρ k (lookH h k) → (ρ k).b < w.heap.size))
    (h1 : lookH h k1 = .cells w1 [s1]) (m1 : k1 ∈ qs) (hB : ∀ b, B b → ¬ X b ∨ ∃ k ∈ qs, Real ρ k (lookH h k) ∧ (ρ k).b = b) (hBs : ∀ b, B b → b < w.heap.size) (hv1 : ∀ ρ', den ρ' s1' = den ρ s1) :
    ∃ (ρ' : Env) (B' : Nat → Prop), denL ρ' [.ptr 0 0] = denL ρ [.ptr k1 0] ∧ (∀ b, B b → B' b) ∧ (∀ b, B' b → b < w.heap.size) ∧
      (∀ k c, [Chunk.cells false [s1']][k]? = some c → Holds ρ' w k c ∧ (Real ρ' k c → B' (ρ' k).b)) ∧ ∀ b, B' b → ¬ X b ∨ ∃ k ∈ qs, Real ρ k (lookH h k) ∧ (ρ k).b = b := by
  have q1 := hH k1 m1
  have r1 : Real ρ k1 (lookH h k1) := by rw [h1] at q1 ⊢; exact ⟨rfl, q1.1.1⟩
  refine ⟨fun _ => ρ k1, fun b => B b ∨ b = (ρ k1).b, rfl, fun b hb => .inl hb, ?_, ?_, ?_⟩
  · rintro b (hb | rfl)
    · exact hBs b hb
    · exact q1.2 r1
  · intro k c hc
    rcases k with _ | k
    · cases hc
      rw [h1] at q1
      exact ⟨hold_cell q1.1 rfl (hv1 _), fun _ => .inr rfl⟩
    · simp at hc
  · rintro b (hb | rfl)
    · exact hB b hb
    · exact .inr ⟨k1, m1, r1, rfl⟩
theorem caps2 {qs : List Nat} {h : List Chunk} {ρ : Env} {w : World} {X B : Nat → Prop} {k1 k2 : Nat} {w1 w2 : Bool} {s1 s2 s1' s2' : SV} (hH : ∀ k ∈ qs, Holds ρ w k (lookH h k) ∧ (Real ρ k (lookH h k) → (ρ k).b < w.heap.size))
    (h1 : lookH h k1 = .cells w1 [s1]) (h2 : lookH h k2 = .cells w2 [s2]) (m1 : k1 ∈ qs) (m2 : k2 ∈ qs) (hB : ∀ b, B b → ¬ X b ∨ ∃ k ∈ qs, Real ρ k (lookH h k) ∧ (ρ k).b = b) (hBs : ∀ b, B b → b < w.heap.size)
    (hv1 : ∀ ρ', den ρ' s1' = den ρ s1) (hv2 : ∀ ρ', den ρ' s2' = den ρ s2) :
    ∃ (ρ' : Env) (B' : Nat → Prop), denL ρ' [.ptr 0 0, .ptr 1 0] = denL ρ [.ptr k1 0, .ptr k2 0] ∧ (∀ b, B b → B' b) ∧ (∀ b, B' b → b < w.heap.size) ∧
      (∀ k c, [Chunk.cells false [s1'], .cells false [s2']][k]? = some c → Holds ρ' w k c ∧ (Real ρ' k c → B' (ρ' k).b)) ∧ ∀ b, B' b → ¬ X b ∨ ∃ k ∈ qs, Real ρ k (lookH h k) ∧ (ρ k).b = b := by
  have q1 := hH k1 m1
  have q2 := hH k2 m2
  have r1 : Real ρ k1 (lookH h k1) := by rw [h1] at q1 ⊢; exact ⟨rfl, q1.1.1⟩
  have r2 : Real ρ k2 (lookH h k2) := by rw [h2] at q2 ⊢; exact ⟨rfl, q2.1.1⟩
  refine ⟨fun k => match k with | 0 => ρ k1 | _ => ρ k2, fun b => B b ∨ b = (ρ k1).b ∨ b = (ρ k2).b, rfl, fun b hb => .inl hb, ?_, ?_, ?_⟩
  · rintro b (hb | rfl | rfl)
    · exact hBs b hb
    · exact q1.2 r1
    · exact q2.2 r2
  · intro k c hc
    rcases k with _ | _ | k
    · cases hc
      rw [h1] at q1
      exact ⟨hold_cell q1.1 rfl (hv1 _), fun _ => .inr (.inl rfl)⟩
    · cases hc
      rw [h2] at q2
      exact ⟨hold_cell q2.1 rfl (hv2 _), fun _ => .inr (.inr rfl)⟩
    · simp at hc
  · rintro b (hb | rfl | rfl)
    · exact hB b hb
    · exact .inr ⟨k1, m1, r1, rfl⟩
    · exact .inr ⟨k2, m2, r2, rfl⟩
section
variable {P : Pr} (hP : P.p = Try.prog) {qs : List Nat} {h : List Chunk} {sv : SV} {L : List Int} {k1 k2 : Nat} {w1 w2 : Bool}
include hP
theorem SeqL.take (hs : SeqL P qs h sv L) {a : Int} (ha : -9223372036854775808 ≤ a ∧ a ≤ 9223372036854775807) (h1 : lookH h k1 = .cells w1 [.int .i64 a]) (h2 : lookH h k2 = .cells w2 [sv]) (m1 : k1 ∈ qs) (m2 : k2 ∈ qs) :
    SeqL P qs h (.fn (.func 81) [] [.ptr k1 0, .ptr k2 0]) (L.take a.toNat) := by
  intro ρ w X hk hH
  obtain ⟨f, lb, B, hd, hg, hB⟩ := hs ρ w X hk hH
  obtain ⟨ρ', B', e1, e2, e3, e4, e5⟩ := caps2 hH h1 h2 m1 m2 hB hg.1 (s1' := .int .i64 a) (s2' := .v (.func (.func f) #[] ⟨lb⟩)) (fun _ => rfl) (fun _ => hd.symm)
  rw [hP] at hg ⊢
  refine ⟨81, denL ρ [.ptr k1 0, .ptr k2 0], B', rfl, ?_, e5⟩
  rw [← e1]
  exact (gives81 f lb L.length (fun i => L.getD i 0) a ha (min L.length a.toNat) rfl e3 e4 (hg.wider e2 e3)).cong (by simp [Nat.min_comm]) fun i hi => by
    rw [List.getD_eq_getElem?_getD, List.getD_eq_getElem?_getD, List.getElem?_take_of_lt (by omega)]
theorem SeqL.drop (hs : SeqL P qs h sv L) {a : Int} (ha : -9223372036854775808 ≤ a ∧ a ≤ 9223372036854775807) (h1 : lookH h k1 = .cells w1 [.int .i64 a]) (h2 : lookH h k2 = .cells w2 [sv]) (m1 : k1 ∈ qs) (m2 : k2 ∈ qs) :
    SeqL P qs h (.fn (.func 82) [] [.ptr k1 0, .ptr k2 0]) (L.drop a.toNat) := by
  intro ρ w X hk hH
  obtain ⟨f, lb, B, hd, hg, hB⟩ := hs ρ w X hk hH
  obtain ⟨ρ', B', e1, e2, e3, e4, e5⟩ := caps2 hH h1 h2 m1 m2 hB hg.1 (s1' := .int .i64 a) (s2' := .v (.func (.func f) #[] ⟨lb⟩)) (fun _ => rfl) (fun _ => hd.symm)
  rw [hP] at hg ⊢
  refine ⟨82, denL ρ [.ptr k1 0, .ptr k2 0], B', rfl, ?_, e5⟩
  rw [← e1]
  exact (gives82 f lb L.length (fun i => L.getD i 0) a ha _ rfl e3 e4 (hg.wider e2 e3)).cong (by simp) fun i hi => by
    rw [List.getD_eq_getElem?_getD, List.getD_eq_getElem?_getD, List.getElem?_drop]
theorem SeqL.map (hs : SeqL P qs h sv L) {sf : SV} {φ : Int → Int} (hf : FunS P qs h sf (fxI φ)) (h1 : lookH h k1 = .cells w1 [sf]) (h2 : lookH h k2 = .cells w2 [sv]) (m1 : k1 ∈ qs) (m2 : k2 ∈ qs) :
    SeqL P qs h (.fn (.func 78) [] [.ptr k1 0, .ptr k2 0]) (L.map φ) := by
  intro ρ w X hk hH
  obtain ⟨f, lb, B, hd, hg, hB⟩ := hs ρ w X hk hH
  obtain ⟨f2, lb2, B2, hd2, hs2, hp2, hB2⟩ := hf ρ w X hk hH
  obtain ⟨ρ', B', e1, e2, e3, e4, e5⟩ := caps2 (B := fun b => B b ∨ B2 b) hH h1 h2 m1 m2 (fun b hb => hb.elim (hB b) (hB2 b)) (fun b hb => hb.elim (hg.1 b) (hs2 b)) (s1' := .v (.func (.func f2) #[] ⟨lb2⟩)) (s2' := .v (.func (.func f) #[] ⟨lb⟩)) (fun _ => hd2.symm) (fun _ => hd.symm)
  rw [hP] at hg hp2 ⊢
  refine ⟨78, denL ρ [.ptr k1 0, .ptr k2 0], B', rfl, ?_, e5⟩
  rw [← e1]
  exact (gives78 f lb f2 lb2 L.length (fun i => L.getD i 0) φ e3 e4 (hg.wider (fun b hb => e2 b (.inl hb)) e3) fun args r har => ⟨(hp2 args r har).1, fun ρ => ((hp2 args r har).2 ρ).wider (fun b hb => e2 b (.inr hb)) e3⟩).cong (by simp) fun i hi => by
    rw [List.getD_eq_getElem?_getD, List.getD_eq_getElem?_getD, List.getElem?_map, List.getElem?_eq_getElem hi]
    rfl
theorem SeqL.keep (hs : SeqL P qs h sv L) {sf : SV} {β : Int → Bool} (hf : FunS P qs h sf (fxB β)) (h1 : lookH h k1 = .cells w1 [sf]) (h2 : lookH h k2 = .cells w2 [sv]) (m1 : k1 ∈ qs) (m2 : k2 ∈ qs) :
    SeqL P qs h (.fn (.func 80) [] [.ptr k1 0, .ptr k2 0]) (L.filter β) := by
  intro ρ w X hk hH
  obtain ⟨f, lb, B, hd, hg, hB⟩ := hs ρ w X hk hH
  obtain ⟨f2, lb2, B2, hd2, hs2, hp2, hB2⟩ := hf ρ w X hk hH
  obtain ⟨ρ', B', e1, e2, e3, e4, e5⟩ := caps2 (B := fun b => B b ∨ B2 b) hH h1 h2 m1 m2 (fun b hb => hb.elim (hB b) (hB2 b)) (fun b hb => hb.elim (hg.1 b) (hs2 b)) (s1' := .v (.func (.func f2) #[] ⟨lb2⟩)) (s2' := .v (.func (.func f) #[] ⟨lb⟩)) (fun _ => hd2.symm) (fun _ => hd.symm)
  rw [hP] at hg hp2 ⊢
  refine ⟨80, denL ρ [.ptr k1 0, .ptr k2 0], B', rfl, ?_, e5⟩
  rw [← e1]
  have key : ∀ i, i ≤ L.length → ((L.take i).filter β).length = cntB (fun i => β (L.getD i 0)) i := by
    intro i
    induction i with
    | zero => intro _; rfl
    | succ i ih =>
      intro hi
      rw [cntB_succ, ← ih (by omega), List.take_add_one, List.filter_append, List.length_append, List.getD_eq_getElem?_getD, List.getElem?_eq_getElem (show i < L.length by omega)]
      cases hb : β L[i] <;> simp [hb]
  have hy : ∀ i, i < L.length → β (L.getD i 0) = true → (L.filter β).getD (cntB (fun i => β (L.getD i 0)) i) 0 = L.getD i 0 := by
    intro i hi hb
    have h3 : L.filter β = (L.take i).filter β ++ (L.drop i).filter β := by rw [← List.filter_append, List.take_append_drop]
    rw [h3, List.getD_eq_getElem?_getD, ← key i (by omega), List.getElem?_append_right (Nat.le_refl _), Nat.sub_self, List.drop_eq_getElem_cons hi, List.filter_cons]
    have h4 : L.getD i 0 = L[i] := by rw [List.getD_eq_getElem?_getD, List.getElem?_eq_getElem hi]; rfl
    rw [h4] at hb ⊢
    rw [if_pos hb]
    rfl
  exact (gives80 f lb f2 lb2 L.length (fun i => L.getD i 0) β _ rfl (fun i => (L.filter β).getD i 0) hy e3 e4 (hg.wider (fun b hb => e2 b (.inl hb)) e3) fun args r har => ⟨(hp2 args r har).1, fun ρ => ((hp2 args r har).2 ρ).wider (fun b hb => e2 b (.inr hb)) e3⟩).cong (by rw [← key _ (Nat.le_refl _), List.take_length]) fun i hi => rfl
theorem SeqL.count {a : Int} (ha : a ≤ 9223372036854775807) (h1 : lookH h k1 = .cells w1 [.int .i64 a]) (m1 : k1 ∈ qs) : SeqL P qs h (.fn (.func 77) [] [.ptr k1 0]) ((List.range a.toNat).map fun i : Nat => (i : Int)) := by
  intro ρ w X hk hH
  obtain ⟨ρ', B', e1, e2, e3, e4, e5⟩ := caps1 (B := fun _ => False) hH h1 m1 (fun b hb => hb.elim) (fun b hb => hb.elim) (s1' := .int .i64 a) (fun _ => rfl)
  rw [hP]
  refine ⟨77, denL ρ [.ptr k1 0], B', rfl, ?_, e5⟩
  rw [← e1]
  exact (gives77 a.toNat a ha rfl e3 e4).cong (by simp) fun i hi => by
    rw [List.getD_eq_getElem?_getD, List.getElem?_map, List.getElem?_range hi]
    rfl
theorem SeqL.vals (n : Nat) (hn : n ≤ 9223372036854775807) (A : Nat → Int) (h1 : lookH h k1 = .cells w1 [.osl k2 0 0 1 n]) (h2 : lookH h k2 = .row w2 n 1 fun i => .int .i64 (A i)) (m1 : k1 ∈ qs) (m2 : k2 ∈ qs) : SeqL P qs h (.fn (.func 100) [] [.ptr k1 0]) ((List.range n).map A) := by
  intro ρ w X hk hH
  have q1 := hH k1 m1
  have q2 := hH k2 m2
  have r1 : Real ρ k1 (lookH h k1) := by rw [h1] at q1 ⊢; exact ⟨rfl, q1.1.1⟩
  rw [hP]
  refine ⟨100, denL ρ [.ptr k1 0], fun b => b = (ρ k1).b ∨ ((ρ k2).nil = false ∧ b = (ρ k2).b), rfl, ?_, ?_⟩
  · have e1 : denL ρ [.ptr k1 0] = denL (fun k => match k with | 0 => ρ k1 | _ => ρ k2) [.ptr 0 0] := rfl
    rw [e1]
    have r2 : (ρ k2).nil = false → Real ρ k2 (lookH h k2) := fun hn => by rw [h2]; exact ⟨rfl, hn⟩
    refine (gives100 n hn A ?_ ?_).cong (by simp) fun i hi => ?_
    · rintro b (rfl | ⟨hn, rfl⟩)
      · exact q1.2 r1
      · exact q2.2 (r2 hn)
    · intro k c hc
      rcases k with _ | _ | k
      · cases hc
        rw [h1] at q1
        refine ⟨hold_cell q1.1 rfl rfl, fun _ => .inl rfl⟩
      · cases hc
        rw [h2] at q2
        refine ⟨?_, fun hR => .inr ⟨hR.2, rfl⟩⟩
        have h3 := frz1_holds q2.1
        exact h3
      · simp at hc
    · rw [List.getD_eq_getElem?_getD, List.getElem?_map, List.getElem?_range hi]
      rfl
  · rintro b (rfl | ⟨hn, rfl⟩)
    · exact .inr ⟨k1, m1, r1, rfl⟩
    · exact .inr ⟨k2, m2, by rw [h2]; exact ⟨rfl, hn⟩, rfl⟩
end
end Go.Proofs.Ytloinbebkhcndaa
