/- From what is known of a call to the statement of a row. No condition. -/
import Derived.Test.YtloinbebkhcndaaSxs
import Derived.ProofKit
import Derived.Below
import Derived.OpenShut
import Derived.Deep.Slices
set_option linter.all false
namespace Go.Sx
open Go.RowKit Go.WideShapes Go.ChangeShapes

/-- The start of a walk: nothing that was there may be written. -/
def Ctx.start (w : World) (ρ : Env) (n : Nat) : Ctx := ⟨w, fun _ => False, ρ, n⟩

theorem calls_of_callP {P : Program} {f : FuncId} {fn : Func} {c : Code} (hf : P.funcs[f]? = some fn) (hname : (fn.name == "runtime.NumGoroutine") = false) (hb : fn.body = some c) {args : List SV} {h : List Chunk} {ρ : Env} {w : World} {b : Bool}
    (hM : Models (Ctx.start w ρ h.length) ρ h w) (ha : okL h.length args) (hc : callP (Pr.of P) f args h fun _ v _ => v = .bool b) :
    Calls P f (denL ρ args).toArray w fun e w' => e = .returned (.bool b) ∧ Below w.heap.size w w' := by
  have h1 : fn.name ≠ "runtime.NumGoroutine" := by simpa using hname
  rcases hc _ ρ w trivial hM ha with ⟨w', ρ', sv, h', hr, _⟩ | ⟨_, h2⟩
  · simp [callFunc, hf, h1, hb] at hr
  · refine callsIn_wide.1 ((h2 Fence.wide 0 ⟨fun _ => trivial, rfl⟩ rfl).mono fun e w' => ?_)
    rintro ⟨ρ', sv, h', rfl, rfl, hM', _⟩
    exact ⟨rfl, hM'.keep.os, hM'.keep.tape, hM'.keep.output, hM'.keep.size, fun k hk => hM'.keep.block k hk fun h => h⟩

theorem models_nil (w : World) (ρ : Env) : Models (Ctx.start w ρ 0) ρ [] w :=
  ⟨Keep.refl _ _, fun _ _ => rfl, Nat.le_refl _, fun k c h => by simp at h, fun k c h => by simp at h, fun k c h => by simp at h, fun k c h => by simp at h, fun k k' c c' h => by simp at h⟩

theorem wf_u8 {z : Int} (h : (Lit.int .u8 z).wf = true) : z = nat (BitVec.ofInt 8 z) := by
  have hb : 0 ≤ z ∧ z ≤ 255 := by simpa [Lit.wf, IntKind.min, IntKind.max, IntKind.signed, IntKind.bits] using h
  simp only [nat, BitVec.toNat_ofInt]
  omega

section
variable {H : Type} {enc : TypeId × Value → H} {P : Program} {W : World}

/-- A row of bytes, by value. -/
theorem open_bytes_arr {r : Reach} {b0 : Nat} {t el n : Nat} {v : Value} {d : DataW H} {p : List MemPlace} (ht : P.underlying t = some (.array n el)) (he : P.underlying el = some (.int .u8)) (hc : P.cellsOf el = 1) (hct : P.cellsOf t = n)
    (hv : Value.okWide P W r b0 t v) (h : DataW.Trod enc P W 0 (fun _ => true) true t v d p) : ∃ D : Nat → BitVec 8, ∀ ρ, v = den ρ (.fam n 1 fun i => .int .u8 (nat (D i))) := by
  have hv' : ∃ cs, v = .agg cs ∧ cs.size = P.cellsOf t := by
    unfold Value.okWide at hv
    rw [ht] at hv
    obtain ⟨cs, h1, h2, _⟩ := hv
    exact ⟨cs, h1, h2⟩
  obtain ⟨cs, rfl, hs⟩ := hv'
  obtain ⟨fuel, hf⟩ := h
  obtain ⟨xs, m, _, _, hl, hxl, hx⟩ := DataW.trod_array ht hf
  rw [hct] at hs
  have hz : ∀ i, i < n → ∃ z : BitVec 8, cs[i]? = some (.int .u8 (nat z)) := fun i hi => by
    have h1 := hx i hi
    rw [List.getElem?_eq_getElem (by omega), hc, Nat.mul_one] at h1
    obtain ⟨z, h2, _, h3⟩ := DataW.trod_int he h1
    refine ⟨BitVec.ofInt 8 z, ?_⟩
    rw [← wf_u8 h3, ← Array.getElem?_toList]
    have h4 : ((cs.toList.drop i).take 1)[0]? = some (.int .u8 z) := by
      rw [show cs.toList = (Value.agg cs).cells.toList from rfl, h2]; rfl
    simpa [List.getElem?_take, List.getElem?_drop] using h4
  obtain ⟨D, hD⟩ := Go.Deep.choose_lt (α := BitVec 8) hz
  refine ⟨D, fun ρ => ?_⟩
  simp only [den, Value.agg.injEq]
  apply Array.ext'
  apply List.ext_getElem?
  intro i
  rw [Array.getElem?_toList]
  have e : ((List.range n).flatMap fun i => (den ρ (SV.int .u8 (nat (D i)))).cells.toList) = (List.range n).map fun i => Value.int .u8 (nat (D i)) := by
    generalize List.range n = l
    induction l with
    | nil => rfl
    | cons a l ih => rw [List.flatMap_cons, ih]; rfl
  simp only [den] at e
  rw [show ((List.range n).flatMap fun i => (Value.int IntKind.u8 (nat (D i))).cells.toList).toArray.toList = (List.range n).map fun i => Value.int .u8 (nat (D i)) from e]
  rcases Nat.lt_or_ge i n with hi | hi
  · rw [hD i hi]
    simp [hi]
  · rw [Array.getElem?_eq_none (by omega), List.getElem?_eq_none (by simpa using hi)]
/-- How many values and letters a reading holds at least. -/
theorem open_bytes {t el : TypeId} {v : Value} {d : DataW H} {p : List MemPlace} {base : Nat} (ht : P.underlying t = some (.slice el)) (he : P.underlying el = some (.int .u8)) (hc : P.cellsOf el = 1)
    (hv : Value.okWide P W .any base t v) (h : DataW.Trod enc P W 0 (fun _ => true) true t v d p) :
    ∃ (pl : Place) (len : Nat) (B : Nat → BitVec 8), (∀ ρ k, ρ k = pl → v = den ρ (.osl k 0 0 1 len) ∧ Holds ρ W k (.row false len 1 fun i => .int .u8 (nat (B i)))) ∧ (pl.nil = false → pl.b < W.heap.size) ∧
      ((len = 0 ∧ d = .nil) ∨ ∃ es rs, d = .slice es rs ∧ es.length = len) := by
  obtain ⟨a, len, cap, rfl⟩ := okWide_slice ht hv
  obtain ⟨fuel, hf⟩ := h
  rcases open_ints ht he hc hf with ⟨hcs, hx⟩ | ⟨x, l, c, zs, hcs, _, hl, hm, hz, hx, hcell, hwz⟩
  · simp [Value.cells] at hcs
    obtain ⟨rfl, rfl, rfl⟩ := hcs
    refine ⟨⟨0, 0, 0, true⟩, 0, fun _ => 0, fun ρ k hk => ⟨by simp [den, hk], by simp [Holds, hk]⟩, by simp, .inl ⟨rfl, ?_⟩⟩
    simpa using (Prod.mk.inj hx).1
  · simp [Value.cells] at hcs
    obtain ⟨rfl, rfl, rfl⟩ := hcs
    have hok : W.has P .any base x el cap := by
      unfold Value.okWide at hv
      rw [ht] at hv
      simp only [Cell.okWide, ht, Cell.ok] at hv
      exact hv.2.2
    obtain ⟨_, hsp, row, cells, hsh, _⟩ := hok
    obtain ⟨b, o, sp⟩ := x
    simp only at hsp
    subst hsp
    have hzl : zs.length = cap := by simpa using hz
    have hlt : b < W.heap.size := by
      rcases Nat.lt_or_ge b W.heap.size with h' | h'
      · exact h'
      · simp [World.shape?, Array.getElem?_eq_none h'] at hsh
    have hB : ∀ i, i < len → ∃ z : BitVec 8, W.cell? ⟨b, o + i, none⟩ = some (.int .u8 (nat z)) := fun i hi => by
      have h1 := hcell i (by omega)
      have hmem : zs.getD i 0 ∈ zs := by
        rw [List.getD, List.getElem?_eq_getElem (by omega)]
        exact List.getElem_mem _
      refine ⟨BitVec.ofInt 8 (zs.getD i 0), ?_⟩
      rw [← wf_u8 (hwz _ hmem), ← h1]
      congr 1
      unfold Addr.add
      split <;> simp_all
    obtain ⟨B, hB'⟩ := Go.Deep.choose_lt (α := BitVec 8) hB
    refine ⟨⟨b, o, cap, false⟩, len, B, fun ρ k hk => ⟨?_, ?_⟩, fun _ => hlt, .inr ⟨_, _, (Prod.mk.inj hx).1, ?_⟩⟩
    · simp [den, hk]
    · simp only [Holds, hk, Bool.false_eq_true, if_false]
      refine ⟨fun j v hj => ?_, hl, by simp⟩
      have e : (den ρ (.fam len 1 fun i => .int .u8 (nat (B i)))).cells.toList = (List.range len).map fun i => Value.int .u8 (nat (B i)) := by
        simp only [den, Value.cells]
        show ((List.range len).flatMap fun i => [Value.int .u8 (nat (B i))]) = _
        generalize List.range len = l
        induction l with
        | nil => rfl
        | cons a l ih => rw [List.flatMap_cons, ih]; rfl
      rw [e] at hj
      have hjl : j < len := by
        have := (List.getElem?_eq_some_iff.1 hj).1
        simpa using this
      rw [List.getElem?_map, List.getElem?_range hjl, Option.map_some, Option.some.injEq] at hj
      rw [← hj]
      exact hB' j hjl
    · simp [lits, hzl]
      omega

/-- The start, where one row came in. -/
theorem models_row {ρ : Env} {pl : Place} {len : Nat} {f : Nat → SV} (hk : ρ 0 = pl) (hh : Holds ρ W 0 (.row false len 1 f)) (hf : ∀ i, i < len → sz (f i) = 1 ∧ ok 0 (f i) ∧ stor (f i)) (hlt : pl.nil = false → pl.b < W.heap.size) :
    Models (Ctx.start W ρ 1) ρ [.row false len 1 f] W where
  keep := Keep.refl _ _
  agree := fun _ _ => rfl
  len := Nat.le_refl _
  holds := fun k c h => by
    rcases k with _ | k
    · cases h; exact hh
    · simp at h
  okc := fun k c h => by
    rcases k with _ | k
    · cases h
      exact ⟨fun i hi => ⟨(hf i hi).1, ok_mono (Nat.zero_le _) _ (hf i hi).2.1⟩, fun i hi => (hf i hi).2.2⟩
    · simp at h
  size := fun k c h hr => by
    rcases k with _ | k
    · rw [hk]; exact hlt (by rw [← hk]; exact hr.2)
    · simp at h
  wr := fun k c h hr => by
    rcases k with _ | k
    · cases h; exact absurd hr.1 (by simp [Chunk.wr])
    · simp at h
  sep := fun k k' c c' h h' hne hr _ => by
    rcases k with _ | k
    · cases h; exact absurd hr.1 (by simp [Chunk.wr])
    · simp at h
end
end Go.Sx
