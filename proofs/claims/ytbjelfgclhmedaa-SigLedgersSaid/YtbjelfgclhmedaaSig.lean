/- A signature that came in, opened. No condition. -/
import Derived.Test.YtbjelfgclhmedaaTab
import Derived.Test.YtbjelfgclhmedaaSxt
set_option linter.all false
set_option maxRecDepth 100000
namespace Go.Proofs.Ytbjelfgclhmedaa
open Go Go.Sx Go.RowKit Go.WideShapes Go.ChangeShapes

theorem fam_cells (ρ : Env) (n : Nat) (D : Nat → BitVec 8) : (den ρ (.fam n 1 fun i => .int .u8 (nat (D i)))).cells.toList = (List.range n).map fun i => Value.int .u8 (nat (D i)) := by
  simp only [den, Value.cells]
  show ((List.range n).flatMap fun i => [Value.int .u8 (nat (D i))]) = _
  generalize List.range n = l
  induction l with
  | nil => rfl
  | cons a l ih => rw [List.flatMap_cons, ih]; rfl

/-- Bytes in a row, read off its reading. -/
theorem row_bytes {H : Type} {enc : TypeId × Value → H} {W : World} {t n fuel : Nat} {cs : List Value} {x : DataW H × List MemPlace} (ht : Try.prog.underlying t = some (.array n 5)) (hct : Try.prog.cellsOf t = n)
    (h : DataW.trod enc Try.prog W 0 (fun _ => true) true fuel t cs = some x) : ∃ D : Nat → BitVec 8, cs = (List.range n).map fun i => Value.int .u8 (nat (D i)) := by
  have hc : Try.prog.cellsOf 5 = 1 := by kernel_rfl
  obtain ⟨xs, m, _, _, hl, hxl, hx⟩ := DataW.trod_array ht h
  rw [hct] at hl
  have hz : ∀ i, i < n → ∃ z : BitVec 8, cs[i]? = some (.int .u8 (nat z)) := fun i hi => by
    have h1 := hx i hi
    rw [List.getElem?_eq_getElem (by omega), hc, Nat.mul_one] at h1
    obtain ⟨z, h2, _, h3⟩ := DataW.trod_int Try.underlying5 h1
    refine ⟨BitVec.ofInt 8 z, ?_⟩
    rw [← wf_u8 h3]
    have h4 : ((cs.drop i).take 1)[0]? = some (.int .u8 z) := by rw [h2]; rfl
    simpa [List.getElem?_take, List.getElem?_drop] using h4
  obtain ⟨D, hD⟩ := Go.Deep.choose_lt (α := BitVec 8) hz
  refine ⟨D, List.ext_getElem? fun i => ?_⟩
  rcases Nat.lt_or_ge i n with hi | hi
  · rw [hD i hi]
    simp [hi]
  · rw [List.getElem?_eq_none (by omega), List.getElem?_eq_none (by simpa using hi)]

theorem open_sig {H : Type} {enc : TypeId × Value → H} {W : World} {base : Nat} {v : Value} {d : DataW H} {p : List MemPlace} (hv : Value.okWide Try.prog W .any base 40 v) (h : DataW.Trod enc Try.prog W 0 (fun _ => true) true 40 v d p) :
    ∃ (a : Int) (D : Nat → BitVec 8), (∀ ρ, v = den ρ (.agg [.int .i64 a, .fam 32 1 fun i => .int .u8 (nat (D i))])) ∧ (Lit.int .i64 a).wf = true := by
  obtain ⟨cs, rfl, hs⟩ := okWide_struct Try.underlying40 hv
  obtain ⟨fuel, hf⟩ := h
  obtain ⟨y0, y1, n, _, hl, h0, h1⟩ := trod_struct2 Try.underlying40 hf
  have hc3 : Try.prog.cellsOf 3 = 1 := by kernel_rfl
  have hc29 : Try.prog.cellsOf 29 = 32 := by kernel_rfl
  have hc40 : Try.prog.cellsOf 40 = 33 := by kernel_rfl
  rw [hc40] at hl
  change DataW.trod enc Try.prog W 0 (fun _ => true) true n 3 ((cs.toList.drop 0).take (Try.prog.cellsOf 3)) = some y0 at h0
  change DataW.trod enc Try.prog W 0 (fun _ => true) true n 29 ((cs.toList.drop 1).take (Try.prog.cellsOf 29)) = some y1 at h1
  rw [hc3] at h0
  rw [hc29] at h1
  obtain ⟨a, e0, _, wa⟩ := DataW.trod_int Try.underlying3 h0
  obtain ⟨D, e1⟩ := row_bytes Try.underlying29 (by kernel_rfl) h1
  refine ⟨a, D, fun ρ => ?_, wa⟩
  have hl' : cs.toList.length = 33 := hl
  have e : cs.toList = Value.int .i64 a :: (List.range 32).map fun i => Value.int .u8 (nat (D i)) := by
    rw [← e1, List.take_of_length_le (by simp; omega)]
    obtain ⟨x, l, hcs⟩ : ∃ x l, cs.toList = x :: l := by
      cases hx : cs.toList with
      | nil => rw [hx] at hl'; simp at hl'
      | cons x l => exact ⟨x, l, rfl⟩
    rw [hcs] at e0 ⊢
    simp only [List.drop_zero, List.take_succ_cons, List.take_zero, List.cons.injEq, and_true] at e0
    rw [e0]
    rfl
  show Value.agg cs = Value.agg (denC ρ [.int .i64 a, .fam 32 1 fun i => .int .u8 (nat (D i))]).toArray
  congr 1
  apply Array.ext'
  rw [e]
  simp only [denC, fam_cells, List.append_nil]
  rfl
end Go.Proofs.Ytbjelfgclhmedaa
