/- Contracts of functions that the laws reach, by the symbolic executor of the texts Sxa to Syg. No condition. -/
import Derived.Test.YtloinbebkhcndaaV14
set_option linter.all false
set_option maxRecDepth 40000
namespace Go.Proofs.Ytloinbebkhcndaa
open Go Go.Sx

theorem flat_len_succ : ∀ (LL : List (List Int)) (i : Nat), i < LL.length → (LL.take (i + 1)).flatten.length = (LL.take i).flatten.length + (LL.getD i []).length
  | [], i, h => by simp at h
  | l :: LL, 0, _ => by simp
  | l :: LL, i + 1, h => by
    have := flat_len_succ LL i (by simpa using h)
    simp only [List.take_succ_cons, List.flatten_cons, List.length_append, List.getD_cons_succ] at this ⊢
    omega
theorem flat_len_le (LL : List (List Int)) (i : Nat) (h : i < LL.length) : (LL.take i).flatten.length + (LL.getD i []).length ≤ LL.flatten.length := by
  rw [← flat_len_succ LL i h]
  conv => rhs; rw [← List.take_append_drop (i + 1) LL]
  rw [List.flatten_append, List.length_append]
  omega
theorem flat_getD : ∀ (LL : List (List Int)) (i k : Nat), i < LL.length → k < (LL.getD i []).length → LL.flatten.getD ((LL.take i).flatten.length + k) 0 = (LL.getD i []).getD k 0
  | [], i, k, h, _ => by simp at h
  | l :: LL, 0, k, _, hk => by
    simp only [List.getD_cons_zero] at hk
    simp only [List.take_zero, List.flatten_nil, List.length_nil, Nat.zero_add, List.flatten_cons, List.getD_cons_zero]
    rw [List.getD_eq_getElem?_getD, List.getElem?_append_left hk, ← List.getD_eq_getElem?_getD]
  | l :: LL, i + 1, k, h, hk => by
    have := flat_getD LL i k (by simpa using h) (by simpa using hk)
    simp only [List.take_succ_cons, List.flatten_cons, List.length_append, List.getD_cons_succ]
    rw [← this, List.getD_eq_getElem?_getD, List.getElem?_append_right (by omega), ← List.getD_eq_getElem?_getD]
    congr 1
    omega
/-- Sequences one behind the other. -/
theorem SeqL.chain {P : Pr} (hP : P.p = Try.prog) {qs : List Nat} {h : List Chunk} {k1 k2 : Nat} {w1 w2 : Bool} (LL : List (List Int)) (F : Nat → SV) (hF : ∀ i, i < LL.length → (F i = .v .nilFunc ∧ LL.getD i [] = []) ∨ SeqL P qs h (F i) (LL.getD i [])) (hn : LL.length ≤ 1000)
    (h1 : lookH h k1 = .cells w1 [.osl k2 0 0 1 LL.length]) (h2 : lookH h k2 = .row w2 LL.length 1 F) (m1 : k1 ∈ qs) (m2 : k2 ∈ qs) : SeqL P qs h (.fn (.func 84) [] [.ptr k1 0]) LL.flatten := by
  intro ρ w X hk hH
  have q1 := hH k1 m1
  have q2 := hH k2 m2
  have r1 : Real ρ k1 (lookH h k1) := by rw [h1] at q1 ⊢; exact ⟨rfl, q1.1.1⟩
  have r2 : (ρ k2).nil = false → Real ρ k2 (lookH h k2) := fun hn => by rw [h2]; exact ⟨rfl, hn⟩
  have hch : ∀ i, ∃ Bi : Nat → Prop, i < LL.length → ((den ρ (F i) = .nilFunc ∧ (LL.getD i []).length = 0) ∨ ∃ f lb, den ρ (F i) = .func (.func f) #[] ⟨lb⟩ ∧ Gives Try.prog f lb Bi (LL.getD i []).length (fun k => .int .i64 ((LL.getD i []).getD k 0)) w) ∧
      (∀ b, Bi b → b < w.heap.size) ∧ ∀ b, Bi b → ¬ X b ∨ ∃ k ∈ qs, Real ρ k (lookH h k) ∧ (ρ k).b = b := fun i => by
    by_cases hi : i < LL.length
    · rcases hF i hi with ⟨e, e0⟩ | hs
      · exact ⟨fun _ => False, fun _ => ⟨.inl ⟨by rw [e]; rfl, by rw [e0]; rfl⟩, fun b hb => hb.elim, fun b hb => hb.elim⟩⟩
      · obtain ⟨f, lb, B, hd, hg, hB⟩ := hs ρ w X hk hH
        rw [hP] at hg
        exact ⟨B, fun _ => ⟨.inr ⟨f, lb, hd, hg⟩, hg.1, hB⟩⟩
    · exact ⟨fun _ => False, fun h => absurd h hi⟩
  obtain ⟨Bf, hBf⟩ := Classical.axiomOfChoice hch
  have hBs : ∀ b, (b = (ρ k1).b ∨ ((ρ k2).nil = false ∧ b = (ρ k2).b) ∨ ∃ i, i < LL.length ∧ Bf i b) → b < w.heap.size := by
    rintro b (rfl | ⟨hn, rfl⟩ | ⟨i, hi, hb⟩)
    · exact q1.2 r1
    · exact q2.2 (r2 hn)
    · exact (hBf i hi).2.1 b hb
  rw [hP]
  refine ⟨84, denL ρ [.ptr k1 0], fun b => b = (ρ k1).b ∨ ((ρ k2).nil = false ∧ b = (ρ k2).b) ∨ ∃ i, i < LL.length ∧ Bf i b, rfl, ?_, ?_⟩
  · have e1 : denL ρ [.ptr k1 0] = denL (fun k => match k with | 0 => ρ k1 | _ => ρ k2) [.ptr 0 0] := rfl
    rw [e1]
    have hg := gives84 LL.length hn (fun i => den ρ (F i)) (fun i => (LL.getD i []).length) (fun i k => (LL.getD i []).getD k 0) (fun i => (LL.take i).flatten.length) rfl (fun i hi => flat_len_succ LL i hi) (fun i hi => by rw [List.take_length]; exact flat_len_le LL i hi) (fun j => LL.flatten.getD j 0) (fun i k hi hk => flat_getD LL i k hi hk)
      (ρ := fun k => match k with | 0 => ρ k1 | _ => ρ k2) (B := fun b => b = (ρ k1).b ∨ ((ρ k2).nil = false ∧ b = (ρ k2).b) ∨ ∃ i, i < LL.length ∧ Bf i b) (w0 := w) hBs ?_ ?_
    · rw [List.take_length] at hg
      exact hg
    · intro k c hc
      rcases k with _ | _ | k
      · cases hc
        rw [h1] at q1
        exact ⟨hold_cell q1.1 rfl rfl, fun _ => .inl rfl⟩
      · cases hc
        rw [h2] at q2
        refine ⟨?_, fun hR => .inr (.inl ⟨hR.2, rfl⟩)⟩
        have h3 := frz1_holds q2.1
        exact h3
      · simp at hc
    · intro i hi
      rcases (hBf i hi).1 with h | ⟨f, lb, e, hg⟩
      · exact .inl h
      · exact .inr ⟨f, lb, e, hg.wider (fun b hb => .inr (.inr ⟨i, hi, hb⟩)) hBs⟩
  · rintro b (rfl | ⟨hn, rfl⟩ | ⟨i, hi, hb⟩)
    · exact .inr ⟨k1, m1, r1, rfl⟩
    · exact .inr ⟨k2, m2, r2 hn, rfl⟩
    · exact (hBf i hi).2.2 b hb
theorem SeqL.valsL {P : Pr} (hP : P.p = Try.prog) {qs : List Nat} {h : List Chunk} {k1 k2 : Nat} {w1 w2 : Bool} {L : List Int} (n : Nat) (hn : n ≤ 9223372036854775807) (A : Nat → Int) (hL : L = (List.range n).map A) (h1 : lookH h k1 = .cells w1 [.osl k2 0 0 1 n]) (h2 : lookH h k2 = .row w2 n 1 fun i => .int .i64 (A i)) (m1 : k1 ∈ qs) (m2 : k2 ∈ qs) : SeqL P qs h (.fn (.func 100) [] [.ptr k1 0]) L :=
  hL ▸ SeqL.vals hP n hn A h1 h2 m1 m2
end Go.Proofs.Ytloinbebkhcndaa
