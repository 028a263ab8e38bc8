/- Rows of signatures, of numbers, of bools that came in, opened. No condition. -/
import Derived.Test.YtbjelfgclhmedaaSig
import Derived.Test.YtbjelfgclhmedaaSxw
set_option linter.all false
set_option maxRecDepth 100000
namespace Go.Proofs.Ytbjelfgclhmedaa
open Go Go.Sx Go.RowKit Go.WideShapes Go.ChangeShapes

/-- A signature as a value. -/
structure Sg where
  a : Int
  D : Nat → BitVec 8
def Sg.v (s : Sg) : SV := .agg [.int .i64 s.a, .fam 32 1 fun i => .int .u8 (nat (s.D i))]
theorem sg_cells (ρ : Env) (s : Sg) : (den ρ s.v).cells.toList = Value.int .i64 s.a :: (List.range 32).map fun i => Value.int .u8 (nat (s.D i)) := by
  simp only [Sg.v, den, Value.cells, denC, fam_cells, List.append_nil]
  rfl

theorem sig_of_trod {H : Type} {enc : TypeId × Value → H} {W : World} {cs : List Value} {y : DataW H × List MemPlace} {fuel : Nat} (hl' : cs.length = 33) (hf : DataW.trod enc Try.prog W 0 (fun _ => true) true fuel 40 cs = some y) :
    ∃ s : Sg, cs = Value.int .i64 s.a :: (List.range 32).map fun i => Value.int .u8 (nat (s.D i)) := by
  obtain ⟨y0, y1, n, _, hl, h0, h1⟩ := trod_struct2 Try.underlying40 hf
  have hc3 : Try.prog.cellsOf 3 = 1 := by kernel_rfl
  have hc29 : Try.prog.cellsOf 29 = 32 := by kernel_rfl
  change DataW.trod enc Try.prog W 0 (fun _ => true) true n 3 ((cs.drop 0).take (Try.prog.cellsOf 3)) = some y0 at h0
  change DataW.trod enc Try.prog W 0 (fun _ => true) true n 29 ((cs.drop 1).take (Try.prog.cellsOf 29)) = some y1 at h1
  rw [hc3] at h0
  rw [hc29] at h1
  obtain ⟨a, e0, _, wa⟩ := DataW.trod_int Try.underlying3 h0
  obtain ⟨D, e1⟩ := row_bytes Try.underlying29 (by kernel_rfl) h1
  refine ⟨⟨a, D⟩, ?_⟩
  rw [← e1, List.take_of_length_le (by simp; omega)]
  obtain ⟨x, l, hcs⟩ : ∃ x l, cs = x :: l := by
    cases hx : cs with
    | nil => rw [hx] at hl'; simp at hl'
    | cons x l => exact ⟨x, l, rfl⟩
  rw [hcs] at e0 ⊢
  simp only [List.drop_zero, List.take_succ_cons, List.take_zero, List.cons.injEq, and_true] at e0
  rw [e0]
  rfl

theorem open_sigs {H : Type} {enc : TypeId × Value → H} {W : World} {base : Nat} {v : Value} {d : DataW H} {p : List MemPlace} (hv : Value.okWide Try.prog W .any base 48 v) (h : DataW.Trod enc Try.prog W 0 (fun _ => true) true 48 v d p) :
    ∃ (pl : Sx.Place) (n : Nat) (S : Nat → Sg), (∀ ρ k, ρ k = pl → v = den ρ (.osl k 0 0 33 n) ∧ Holds ρ W k (.row false n 33 fun i => (S i).v)) ∧ (pl.nil = false → pl.b < W.heap.size) ∧ n ≤ 9223372036854775807 := by
  obtain ⟨a, n, cap, rfl⟩ := okWide_slice Try.underlying48 hv
  have hc : Try.prog.cellsOf 40 = 33 := by kernel_rfl
  obtain ⟨fuel, hf⟩ := h
  haveI : Inhabited Sg := ⟨⟨0, fun _ => 0⟩⟩
  rcases Go.Deep.open_slice Try.underlying48 hf with ⟨hcs, _⟩ | ⟨x, l, c, m, k, D, Pl, hcs, _, hl, hm, hmm, _, hcell⟩
  · simp [Value.cells] at hcs
    obtain ⟨rfl, rfl, rfl⟩ := hcs
    exact ⟨⟨0, 0, 0, true⟩, 0, fun _ => default, fun ρ k hk => ⟨by simp [den, hk], by simp [Holds, hk]⟩, by simp, by omega⟩
  · simp [Value.cells] at hcs
    obtain ⟨rfl, rfl, rfl⟩ := hcs
    have hmx : cap ≤ 9223372036854775807 := by
      have e : maxLen = 9223372036854775807 := rfl
      omega
    have hok : W.has Try.prog .any base x 40 cap := by
      unfold Value.okWide at hv
      rw [Try.underlying48] at hv
      simp only [Cell.okWide, Try.underlying48, Cell.ok] at hv
      exact hv.2.2
    obtain ⟨_, hsp, row, cells, hsh, _⟩ := hok
    obtain ⟨b, o, sp⟩ := x
    simp only at hsp
    subst hsp
    have hlt : b < W.heap.size := by
      rcases Nat.lt_or_ge b W.heap.size with h' | h'
      · exact h'
      · simp [World.shape?, Array.getElem?_eq_none h'] at hsh
    have hmn : n ≤ m := by simp at hmm; omega
    have hrow : ∀ i, i < n → ∃ s : Sg, ∀ j u, (Value.int .i64 s.a :: (List.range 32).map fun i => Value.int .u8 (nat (s.D i)))[j]? = some u → W.cell? ⟨b, o + i * 33 + j, none⟩ = some u := fun i hi => by
      obtain ⟨cs', h1, h2⟩ := hcell i (by omega)
      rw [hc] at h1
      obtain ⟨_, hlen, hget⟩ := World.cells?_some h1
      obtain ⟨s, hs⟩ := sig_of_trod hlen h2
      refine ⟨s, fun j u hj => ?_⟩
      rw [← hs] at hj
      have hj33 : j < 33 := by
        have := (List.getElem?_eq_some_iff.1 hj).1
        omega
      rw [← hj, ← hget j hj33]
      congr 1
      unfold Addr.add
      (repeat' split) <;> simp_all
    obtain ⟨S, hS⟩ := Go.Deep.choose_lt hrow
    refine ⟨⟨b, o, cap, false⟩, n, S, fun ρ k hk => ⟨by simp [den, hk], ?_⟩, fun _ => hlt, by omega⟩
    simp only [Holds, hk, Bool.false_eq_true, if_false]
    refine ⟨?_, hl, by simp⟩
    rw [cells_fam]
    refine rangeAt_flat (s := 33) n fun i hi => ?_
    rw [sg_cells]
    exact ⟨by simp, fun j u hj => hS i hi j u hj⟩
end Go.Proofs.Ytbjelfgclhmedaa
