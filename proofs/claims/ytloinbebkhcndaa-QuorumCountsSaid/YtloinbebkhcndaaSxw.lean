/- Rows of rows that came in, opened. No condition. -/
import Derived.Test.YtloinbebkhcndaaSxv
import Derived.Deep.Slices
set_option linter.all false
namespace Go.Sx
open Go.RowKit Go.WideShapes Go.ChangeShapes

/-- A slice of bytes that the start's memory holds: a row that may be named; or an empty one. -/
def BRow (W : World) (x : Value) (len : Nat) (B : Nat → BitVec 8) : Prop :=
  (∃ pl : Place, (∀ ρ k, ρ k = pl → x = den ρ (.osl k 0 0 1 len) ∧ Holds ρ W k (.row false len 1 fun i => .int .u8 (nat (B i)))) ∧ (pl.nil = false → pl.b < W.heap.size)) ∨
  (len = 0 ∧ ∃ a c, x = .slice a 0 c)

section
variable {H : Type} {enc : TypeId × Value → H} {P : Program} {W : World}

theorem brow_of_trod {t el fuel : Nat} {x : Value} {y : DataW H × List MemPlace} (ht : P.underlying t = some (.slice el)) (he : P.underlying el = some (.int .u8)) (hc : P.cellsOf el = 1)
    (h : DataW.trod enc P W 0 (fun _ => true) true fuel t [x] = some y) : ∃ len B, BRow W x len B := by
  rcases open_ints ht he hc h with ⟨hcs, _⟩ | ⟨a, l, c, zs, hcs, _, hl, hm, hz, _, hcell, hwz⟩
  · simp only [List.cons.injEq, and_true] at hcs
    subst hcs
    exact ⟨0, fun _ => 0, .inr ⟨rfl, none, 0, rfl⟩⟩
  · simp only [List.cons.injEq, and_true] at hcs
    subst hcs
    rcases Nat.eq_zero_or_pos l with rfl | hl0
    · exact ⟨0, fun _ => 0, .inr ⟨rfl, _, _, rfl⟩⟩
    · have hzl : zs.length = c := by simpa using hz
      obtain ⟨b, o, sp⟩ := a
      have hc0 := hcell 0 (by omega)
      have hsp : sp = none := by simpa [Addr.add] using World.cell?_spot hc0
      subst hsp
      have hlt : b < W.heap.size := by
        rcases Nat.lt_or_ge b W.heap.size with h' | h'
        · exact h'
        · simp [Addr.add, World.cell?, Array.getElem?_eq_none h'] at hc0
      have hB : ∀ i, i < l → ∃ z : BitVec 8, W.cell? ⟨b, o + i, none⟩ = some (.int .u8 (nat z)) := fun i hi => by
        have h1 := hcell i (by omega)
        have hmem : zs.getD i 0 ∈ zs := by
          rw [List.getD, List.getElem?_eq_getElem (by omega)]
          exact List.getElem_mem _
        refine ⟨BitVec.ofInt 8 (zs.getD i 0), ?_⟩
        rw [← wf_u8 (hwz _ hmem), ← h1]
        congr 1
        unfold Addr.add
        split <;> simp_all
      obtain ⟨B, hB'⟩ := Go.Deep.choose_lt (α := BitVec 8) hB
      refine ⟨l, B, .inl ⟨⟨b, o, c, false⟩, fun ρ k hk => ⟨?_, ?_⟩, fun _ => hlt⟩⟩
      · simp [den, hk]
      · simp only [Holds, hk, Bool.false_eq_true, if_false]
        refine ⟨fun j v hj => ?_, hl, by simp⟩
        have e : (den ρ (.fam l 1 fun i => .int .u8 (nat (B i)))).cells.toList = (List.range l).map fun i => Value.int .u8 (nat (B i)) := by
          simp only [den, Value.cells]
          show ((List.range l).flatMap fun i => [Value.int .u8 (nat (B i))]) = _
          generalize List.range l = m
          induction m with
          | nil => rfl
          | cons a m ih => rw [List.flatMap_cons, ih]; rfl
        rw [e] at hj
        have hjl : j < l := by
          have := (List.getElem?_eq_some_iff.1 hj).1
          simpa using this
        rw [List.getElem?_map, List.getElem?_range hjl, Option.map_some, Option.some.injEq] at hj
        rw [← hj]
        exact hB' j hjl

theorem open_rows {t e el : TypeId} {v : Value} {d : DataW H} {p : List MemPlace} {base : Nat} (ht : P.underlying t = some (.slice e)) (hte : P.underlying e = some (.slice el)) (he : P.underlying el = some (.int .u8)) (hc : P.cellsOf e = 1) (hcl : P.cellsOf el = 1)
    (hv : Value.okWide P W .any base t v) (h : DataW.Trod enc P W 0 (fun _ => true) true t v d p) :
    ∃ (pl : Place) (n : Nat) (V : Nat → Value) (len : Nat → Nat) (B : Nat → Nat → BitVec 8), (∀ ρ k, ρ k = pl → v = den ρ (.osl k 0 0 1 n) ∧ Holds ρ W k (.row false n 1 fun i => .v (V i))) ∧ (pl.nil = false → pl.b < W.heap.size) ∧
      (∀ i, i < n → BRow W (V i) (len i) (B i) ∧ ∃ a l c, V i = .slice a l c) ∧ n ≤ 9223372036854775807 := by
  obtain ⟨a, n, cap, rfl⟩ := okWide_slice ht hv
  obtain ⟨fuel, hf⟩ := h
  rcases Go.Deep.open_slice1 ht hc hf with ⟨hcs, _⟩ | ⟨x, l, c, m, k, V, D, Pl, hcs, _, hl, hm, hmm, _, hcell⟩
  · simp [Value.cells] at hcs
    obtain ⟨rfl, rfl, rfl⟩ := hcs
    exact ⟨⟨0, 0, 0, true⟩, 0, fun _ => .slice none 0 0, fun _ => 0, fun _ _ => 0, fun ρ k hk => ⟨by simp [den, hk], by simp [Holds, hk]⟩, by simp, fun i hi => absurd hi (Nat.not_lt_zero _), by omega⟩
  · simp [Value.cells] at hcs
    obtain ⟨rfl, rfl, rfl⟩ := hcs
    have hmx : cap ≤ 9223372036854775807 := by
      have e : maxLen = 9223372036854775807 := rfl
      omega
    have hok : W.has P .any base x e cap := by
      unfold Value.okWide at hv
      rw [ht] at hv
      simp only [Cell.okWide, ht, Cell.ok] at hv
      exact hv.2.2
    obtain ⟨_, hsp, row, cells, hsh, _⟩ := hok
    obtain ⟨b, o, sp⟩ := x
    simp only at hsp
    subst hsp
    have hlt : b < W.heap.size := by
      rcases Nat.lt_or_ge b W.heap.size with h' | h'
      · exact h'
      · simp [World.shape?, Array.getElem?_eq_none h'] at hsh
    have hmn : n ≤ m := by simp at hmm; omega
    have hrow : ∀ i, i < n → ∃ q : Nat × (Nat → BitVec 8), BRow W (V i) q.1 q.2 := fun i hi => by
      obtain ⟨ln, B, hB⟩ := brow_of_trod hte he hcl (hcell i (by omega)).2
      exact ⟨(ln, B), hB⟩
    haveI : Inhabited (Nat × (Nat → BitVec 8)) := ⟨(0, fun _ => 0)⟩
    obtain ⟨q, hq⟩ := Go.Deep.choose_lt hrow
    refine ⟨⟨b, o, cap, false⟩, n, V, fun i => (q i).1, fun i => (q i).2, fun ρ k hk => ⟨?_, ?_⟩, fun _ => hlt, fun i hi => ⟨hq i hi, ?_⟩, by omega⟩
    · simp [den, hk]
    · simp only [Holds, hk, Bool.false_eq_true, if_false]
      have hone : ∀ i, i < n → (V i).cells.toList = [V i] := fun i hi => by
        rcases open_ints hte he hcl (hcell i (by omega)).2 with ⟨h1, _⟩ | ⟨_, _, _, _, h1, _⟩ <;> (simp only [List.cons.injEq, and_true] at h1; rw [h1]; rfl)
      refine ⟨fun j v hj => ?_, hl, by simp⟩
      have e1 : (den ρ (.fam n 1 fun i => .v (V i))).cells.toList = (List.range n).map V := by
        simp only [den, Value.cells]
        show ((List.range n).flatMap fun i => (V i).cells.toList) = _
        rw [show ((List.range n).flatMap fun i => (V i).cells.toList) = (List.range n).flatMap fun i => [V i] from flatMap_congr' _ _ n fun i hi => hone i hi]
        generalize List.range n = m
        induction m with
        | nil => rfl
        | cons a m ih => rw [List.flatMap_cons, ih]; rfl
      rw [e1] at hj
      have hjl : j < n := by
        have := (List.getElem?_eq_some_iff.1 hj).1
        simpa using this
      rw [List.getElem?_map, List.getElem?_range hjl, Option.map_some, Option.some.injEq] at hj
      rw [← hj]
      have h1 := (hcell j (by omega)).1
      rw [← h1]
      congr 1
      unfold Addr.add
      split <;> simp_all
    · rcases open_ints hte he hcl (hcell i (by omega)).2 with ⟨h1, _⟩ | ⟨_, _, _, _, h1, _⟩ <;> (simp only [List.cons.injEq, and_true] at h1; exact ⟨_, _, _, h1⟩)
end
end Go.Sx

namespace Go.Sx
open Go.RowKit Go.WideShapes Go.ChangeShapes

theorem rangeAt_flat {w : World} {b o s : Nat} {g : Nat → List Value} : ∀ n, (∀ i, i < n → (g i).length = s ∧ w.rangeAt b (o + i * s) (g i)) → w.rangeAt b o ((List.range n).flatMap g)
  | 0, _ => fun j v hj => by simp at hj
  | n + 1, h => by
    rw [List.range_succ, List.flatMap_append]
    refine rangeAt_app.2 ⟨rangeAt_flat n fun i hi => h i (by omega), ?_⟩
    rw [flatMap_len g s n fun i hi => (h i (by omega)).1]
    simpa using (h n (by omega)).2

section
variable {H : Type} {enc : TypeId × Value → H} {P : Program} {W : World}

theorem arr_of_trod {t el fuel n : Nat} {cs : List Value} {y : DataW H × List MemPlace} (ht : P.underlying t = some (.array n el)) (he : P.underlying el = some (.int .u8)) (hc : P.cellsOf el = 1) (hl : cs.length = n)
    (h : DataW.trod enc P W 0 (fun _ => true) true fuel t cs = some y) : ∃ D : Nat → BitVec 8, ∀ i, i < n → cs[i]? = some (.int .u8 (nat (D i))) := by
  obtain ⟨xs, m, _, _, _, hxl, hx⟩ := DataW.trod_array ht h
  have hz : ∀ i, i < n → ∃ z : BitVec 8, cs[i]? = some (.int .u8 (nat z)) := fun i hi => ?_
  · obtain ⟨D, hD⟩ := Go.Deep.choose_lt (α := BitVec 8) hz
    exact ⟨D, hD⟩
  have h1 := hx i hi
  rw [List.getElem?_eq_getElem (by omega), hc, Nat.mul_one] at h1
  obtain ⟨z, h2, _, h3⟩ := DataW.trod_int he h1
  refine ⟨BitVec.ofInt 8 z, ?_⟩
  rw [← wf_u8 h3]
  have h4 : ((cs.drop i).take 1)[0]? = some (.int .u8 z) := by rw [h2]; rfl
  simpa [List.getElem?_take, List.getElem?_drop] using h4

theorem open_digs {t e el : TypeId} {v : Value} {d : DataW H} {p : List MemPlace} {base : Nat} (ht : P.underlying t = some (.slice e)) (hte : P.underlying e = some (.array 32 el)) (he : P.underlying el = some (.int .u8)) (hc : P.cellsOf e = 32) (hcl : P.cellsOf el = 1)
    (hv : Value.okWide P W .any base t v) (h : DataW.Trod enc P W 0 (fun _ => true) true t v d p) :
    ∃ (pl : Place) (n : Nat) (PD : Nat → Nat → BitVec 8), (∀ ρ k, ρ k = pl → v = den ρ (.osl k 0 0 32 n) ∧ Holds ρ W k (.row false n 32 fun i => .fam 32 1 fun j => .int .u8 (nat (PD i j)))) ∧ (pl.nil = false → pl.b < W.heap.size) ∧ n ≤ 9223372036854775807 := by
  obtain ⟨a, n, cap, rfl⟩ := okWide_slice ht hv
  obtain ⟨fuel, hf⟩ := h
  rcases Go.Deep.open_slice ht hf with ⟨hcs, _⟩ | ⟨x, l, c, m, k, D, Pl, hcs, _, hl, hm, hmm, _, hcell⟩
  · simp [Value.cells] at hcs
    obtain ⟨rfl, rfl, rfl⟩ := hcs
    exact ⟨⟨0, 0, 0, true⟩, 0, fun _ _ => 0, fun ρ k hk => ⟨by simp [den, hk], by simp [Holds, hk]⟩, by simp, by omega⟩
  · simp [Value.cells] at hcs
    obtain ⟨rfl, rfl, rfl⟩ := hcs
    have hmx : cap ≤ 9223372036854775807 := by
      have e : maxLen = 9223372036854775807 := rfl
      omega
    have hok : W.has P .any base x e cap := by
      unfold Value.okWide at hv
      rw [ht] at hv
      simp only [Cell.okWide, ht, Cell.ok] at hv
      exact hv.2.2
    obtain ⟨_, hsp, row, cells, hsh, _⟩ := hok
    obtain ⟨b, o, sp⟩ := x
    simp only at hsp
    subst hsp
    have hlt : b < W.heap.size := by
      rcases Nat.lt_or_ge b W.heap.size with h' | h'
      · exact h'
      · simp [World.shape?, Array.getElem?_eq_none h'] at hsh
    have hmn : n ≤ m := by simp at hmm; omega
    have hrow : ∀ i, i < n → ∃ D : Nat → BitVec 8, ∀ j, j < 32 → W.cell? ⟨b, o + i * 32 + j, none⟩ = some (.int .u8 (nat (D j))) := fun i hi => by
      obtain ⟨cs', h1, h2⟩ := hcell i (by omega)
      rw [hc] at h1
      obtain ⟨_, hlen, hget⟩ := World.cells?_some h1
      obtain ⟨D, hD⟩ := arr_of_trod hte he hcl hlen h2
      refine ⟨D, fun j hj => ?_⟩
      rw [← hD j hj, ← hget j hj]
      congr 1
      unfold Addr.add
      (repeat' split) <;> simp_all
    obtain ⟨PD, hPD⟩ := Go.Deep.choose_lt (α := Nat → BitVec 8) hrow
    refine ⟨⟨b, o, cap, false⟩, n, PD, fun ρ k hk => ⟨by simp [den, hk], ?_⟩, fun _ => hlt, by omega⟩
    simp only [Holds, hk, Bool.false_eq_true, if_false]
    refine ⟨?_, hl, by simp⟩
    have hone : ∀ i, (den ρ (.fam 32 1 fun j => .int .u8 (nat (PD i j)))).cells.toList = (List.range 32).map fun j => Value.int .u8 (nat (PD i j)) := fun i => by
      simp only [den, Value.cells]
      show ((List.range 32).flatMap fun j => [Value.int .u8 (nat (PD i j))]) = _
      generalize List.range 32 = m
      induction m with
      | nil => rfl
      | cons a m ih => rw [List.flatMap_cons, ih]; rfl
    rw [cells_fam]
    refine rangeAt_flat (s := 32) n fun i hi => ?_
    rw [hone]
    refine ⟨by simp, fun j v hj => ?_⟩
    have hjl : j < 32 := by
      have := (List.getElem?_eq_some_iff.1 hj).1
      simpa using this
    rw [List.getElem?_map, List.getElem?_range hjl, Option.map_some, Option.some.injEq] at hj
    rw [← hj]
    exact hPD i hi j hjl
end
end Go.Sx
