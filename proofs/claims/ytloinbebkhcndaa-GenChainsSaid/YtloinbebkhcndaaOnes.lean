/- Rows of numbers and of bools that came in, opened. No condition. -/
import Derived.Test.YtloinbebkhcndaaSxw
import Derived.Test.YtloinbebkhcndaaTab
set_option linter.all false
set_option maxRecDepth 100000
namespace Go.Proofs.Ytloinbebkhcndaa
open Go Go.Sx Go.RowKit Go.WideShapes Go.ChangeShapes

theorem open_ones {α : Type} (dflt : α) (val : α → Value) (sv : α → SV) (hsv : ∀ ρ a, (den ρ (sv a)).cells.toList = [val a]) {t el : TypeId} (ht : Try.prog.underlying t = some (.slice el)) (hc : Try.prog.cellsOf el = 1) {H : Type} {enc : TypeId × Value → H} {W : World} {base : Nat} {v : Value} {d : DataW H} {p : List MemPlace} (hcl : ∀ {fuel : Nat} {cs : List Value} {y}, DataW.trod enc Try.prog W 0 (fun _ => true) true fuel el cs = some y → ∃ a, cs = [val a]) (hv : Value.okWide Try.prog W .any base t v) (h : DataW.Trod enc Try.prog W 0 (fun _ => true) true t v d p) :
    ∃ (pl : Sx.Place) (n : Nat) (S : Nat → α), (∀ ρ k, ρ k = pl → v = den ρ (.osl k 0 0 1 n) ∧ Holds ρ W k (.row false n 1 fun i => sv (S i))) ∧ (pl.nil = false → pl.b < W.heap.size) ∧ n ≤ 9223372036854775807 := by
  obtain ⟨a, n, cap, rfl⟩ := okWide_slice ht hv
  obtain ⟨fuel, hf⟩ := h
  haveI : Inhabited α := ⟨dflt⟩
  rcases Go.Deep.open_slice ht hf with ⟨hcs, _⟩ | ⟨x, l, c, m, k, D, Pl, hcs, _, hl, hm, hmm, _, hcell⟩
  · simp [Value.cells] at hcs
    obtain ⟨rfl, rfl, rfl⟩ := hcs
    exact ⟨⟨0, 0, 0, true⟩, 0, fun _ => default, fun ρ k hk => ⟨by simp [den, hk], by simp [Holds, hk]⟩, by simp, by omega⟩
  · simp [Value.cells] at hcs
    obtain ⟨rfl, rfl, rfl⟩ := hcs
    have hmx : cap ≤ 9223372036854775807 := by
      have e : maxLen = 9223372036854775807 := rfl
      omega
    have hok : W.has Try.prog .any base x el cap := by
      unfold Value.okWide at hv
      rw [ht] at hv
      simp only [Cell.okWide, ht, Cell.ok] at hv
      exact hv.2.2
    obtain ⟨_, hsp, row, cells, hsh, _⟩ := hok
    obtain ⟨b, o, sp⟩ := x
    simp only at hsp
    subst hsp
    have hlt : b < W.heap.size := by
      rcases Nat.lt_or_ge b W.heap.size with h' | h'
      · exact h'
      · simp [World.shape?, Array.getElem?_eq_none h'] at hsh
    have hmn : n ≤ m := by simp at hmm; omega
    have hrow : ∀ i, i < n → ∃ s : α, ∀ j u, [val s][j]? = some u → W.cell? ⟨b, o + i * 1 + j, none⟩ = some u := fun i hi => by
      obtain ⟨cs', h1, h2⟩ := hcell i (by omega)
      rw [hc] at h1
      obtain ⟨_, hlen, hget⟩ := World.cells?_some h1
      obtain ⟨s, hs⟩ := hcl h2
      refine ⟨s, fun j u hj => ?_⟩
      rw [← hs] at hj
      have hj33 : j < 1 := by
        have := (List.getElem?_eq_some_iff.1 hj).1
        omega
      rw [← hj, ← hget j hj33]
      congr 1
      unfold Addr.add
      (repeat' split) <;> simp_all
    obtain ⟨S, hS⟩ := Go.Deep.choose_lt hrow
    refine ⟨⟨b, o, cap, false⟩, n, S, fun ρ k hk => ⟨by simp [den, hk], ?_⟩, fun _ => hlt, by omega⟩
    simp only [Holds, hk, Bool.false_eq_true, if_false]
    refine ⟨?_, hl, by simp⟩
    rw [cells_fam]
    refine rangeAt_flat (s := 1) n fun i hi => ?_
    rw [hsv]
    exact ⟨by simp, fun j u hj => hS i hi j u hj⟩

theorem open_nums {H : Type} {enc : TypeId × Value → H} {W : World} {base : Nat} {t : TypeId} (ht : Try.prog.underlying t = some (.slice 3)) {v : Value} {d : DataW H} {p : List MemPlace} (hv : Value.okWide Try.prog W .any base t v) (h : DataW.Trod enc Try.prog W 0 (fun _ => true) true t v d p) :
    ∃ (pl : Sx.Place) (n : Nat) (A : Nat → Int), (∀ ρ k, ρ k = pl → v = den ρ (.osl k 0 0 1 n) ∧ Holds ρ W k (.row false n 1 fun i => .int .i64 (A i))) ∧ (pl.nil = false → pl.b < W.heap.size) ∧ n ≤ 9223372036854775807 :=
  open_ones (0 : Int) (fun a => .int .i64 a) (fun a => .int .i64 a) (fun _ _ => rfl) ht (by kernel_rfl) (fun hf => by
    obtain ⟨a, e, _⟩ := DataW.trod_int Try.underlying3 hf
    exact ⟨a, e⟩) hv h
theorem open_bools {H : Type} {enc : TypeId × Value → H} {W : World} {base : Nat} {t : TypeId} (ht : Try.prog.underlying t = some (.slice 4)) {v : Value} {d : DataW H} {p : List MemPlace} (hv : Value.okWide Try.prog W .any base t v) (h : DataW.Trod enc Try.prog W 0 (fun _ => true) true t v d p) :
    ∃ (pl : Sx.Place) (n : Nat) (A : Nat → Bool), (∀ ρ k, ρ k = pl → v = den ρ (.osl k 0 0 1 n) ∧ Holds ρ W k (.row false n 1 fun i => .bool (A i))) ∧ (pl.nil = false → pl.b < W.heap.size) ∧ n ≤ 9223372036854775807 :=
  open_ones false (fun a => .bool a) (fun a => .bool a) (fun _ _ => rfl) ht (by kernel_rfl) (fun hf => by
    obtain ⟨a, e, _⟩ := DataW.trod_bool Try.underlying4 hf
    exact ⟨a, e⟩) hv h
end Go.Proofs.Ytloinbebkhcndaa
