/- Symbolic values and symbolic heaps: what they stand for in a world. No condition. -/
import Derived.CallsIn
import Derived.OrdersIn
import Derived.OwnWalkIn
import Derived.RangeFuncIn
import Derived.WalkKit
set_option linter.all false
namespace Go.Sx
open Go.RowKit

/-- A symbolic value. Names (nm) stand for places in memory. -/
inductive SV where
  | v (x : Value)
  | int (k : IntKind) (n : Int)
  | bool (b : Bool)
  | str (s : ByteArray)
  | ptr (nm b : Nat)
  | pix (nm b i s j : Nat)
  | sl (nm b e s len cap : Nat)
  | osl (nm d e s n : Nat)
  | agg (l : List SV)
  | fam (n s : Nat) (f : Nat → SV)
  | tup (l : List SV)
  | fn (f : Fn) (first cap : List SV)
  | mp (nm : Nat)

/-- Where names lie: block, offset; how many elements there is room for; or a slice that is nil. -/
structure Place where
  b : Nat
  o : Nat
  c : Nat
  nil : Bool
abbrev Env := Nat → Place

mutual
def den (ρ : Env) : SV → Value
  | .v x => x
  | .int k n => .int k n
  | .bool b => .bool b
  | .str s => .string s
  | .ptr nm b => .pointer (some ⟨(ρ nm).b, (ρ nm).o + b, none⟩)
  | .pix nm b i s j => .pointer (some ⟨(ρ nm).b, (ρ nm).o + b + i * s + j, none⟩)
  | .sl nm b e s len cap => .slice (some ⟨(ρ nm).b, (ρ nm).o + b + e * s, none⟩) len cap
  | .osl nm d e s n => .slice (bif (ρ nm).nil then none else some ⟨(ρ nm).b, (ρ nm).o + (if (ρ nm).c = e then d * s else e * s), none⟩) n ((ρ nm).c - e)
  | .agg l => .agg (denC ρ l).toArray
  | .fam n _ f => .agg ((List.range n).flatMap fun i => (den ρ (f i)).cells.toList).toArray
  | .tup l => .tuple (denL ρ l).toArray
  | .fn f a c => .func f (denL ρ a).toArray (denL ρ c).toArray
  | .mp nm => .map (some (ρ nm).b)
def denC (ρ : Env) : List SV → List Value
  | [] => []
  | x :: l => (den ρ x).cells.toList ++ denC ρ l
def denL (ρ : Env) : List SV → List Value
  | [] => []
  | x :: l => den ρ x :: denL ρ l
end

mutual
/-- How many cells. -/
def sz : SV → Nat
  | .agg l => szL l
  | .fam n s _ => n * s
  | .v x => x.cells.size
  | _ => 1
def szL : List SV → Nat
  | [] => 0
  | x :: l => sz x + szL l
end

mutual
/-- Sizes fit; the names lie below n. -/
def ok (n : Nat) : SV → Prop
  | .ptr nm _ | .pix nm _ _ _ _ | .sl nm _ _ _ _ _ | .osl nm _ _ _ _ | .mp nm => nm < n
  | .agg l => okL n l
  | .fam m s f => ∀ i, i < m → sz (f i) = s ∧ ok n (f i)
  | .tup l => okL n l
  | .fn _ a c => okL n a ∧ okL n c
  | _ => True
def okL (n : Nat) : List SV → Prop
  | [] => True
  | x :: l => ok n x ∧ okL n l
end

theorem flatMap_len {α : Type} (g : Nat → List α) (s : Nat) : ∀ n, (∀ i, i < n → (g i).length = s) → ((List.range n).flatMap g).length = n * s
  | 0, _ => by simp
  | n + 1, h => by
    rw [List.range_succ, List.flatMap_append, List.length_append, flatMap_len g s n (fun i hi => h i (by omega))]
    simp [h n (by omega), Nat.succ_mul]

mutual
theorem cells_len (ρ : Env) : ∀ (n : Nat) (x : SV), ok n x → (den ρ x).cells.toList.length = sz x
  | _, .v x, _ => by simp [den, sz]
  | _, .int .., _ | _, .bool .., _ | _, .str .., _ | _, .ptr .., _ | _, .pix .., _ | _, .sl .., _ | _, .osl .., _ | _, .tup .., _ | _, .fn .., _ | _, .mp .., _ => by simp [den, sz, Value.cells]
  | n, .agg l, h => by simp only [den, sz, Value.cells]; exact denC_len ρ n l (by simpa [ok] using h)
  | n, .fam m s f, h => by
    simp only [ok] at h
    simp only [den, sz, Value.cells]
    exact flatMap_len _ s m fun i hi => (cells_len ρ n (f i) (h i hi).2).trans (h i hi).1
theorem denC_len (ρ : Env) : ∀ (n : Nat) (l : List SV), okL n l → (denC ρ l).length = szL l
  | _, [], _ => rfl
  | n, x :: l, h => by
    simp only [okL] at h
    simp only [denC, szL, List.length_append, cells_len ρ n x h.1, denC_len ρ n l h.2]
end

/-- Names agree below n. -/
def Agree (n : Nat) (ρ ρ' : Env) : Prop := ∀ k, k < n → ρ' k = ρ k

theorem flatMap_congr' {α : Type} (g g' : Nat → List α) : ∀ n, (∀ i, i < n → g i = g' i) → (List.range n).flatMap g = (List.range n).flatMap g'
  | 0, _ => rfl
  | n + 1, h => by
    rw [List.range_succ, List.flatMap_append, List.flatMap_append, flatMap_congr' g g' n (fun i hi => h i (by omega))]
    simp [h n (by omega)]

mutual
theorem den_agree {n : Nat} {ρ ρ' : Env} (ha : Agree n ρ ρ') : ∀ x : SV, ok n x → den ρ' x = den ρ x
  | .v .., _ | .int .., _ | .bool .., _ | .str .., _ => rfl
  | .ptr nm b, h | .pix nm b _ _ _, h | .sl nm b _ _ _ _, h | .osl nm _ _ _ _, h | .mp nm, h => by simp only [ok] at h; simp only [den, ha nm h]
  | .agg l, h => by simp only [ok] at h; simp only [den, denC_agree ha l h]
  | .fam m s f, h => by
    simp only [ok] at h
    simp only [den]
    rw [flatMap_congr' _ _ m fun i hi => by rw [den_agree ha (f i) (h i hi).2]]
  | .tup l, h => by simp only [ok] at h; simp only [den, denL_agree ha l h]
  | .fn f a c, h => by simp only [ok] at h; simp only [den, denL_agree ha a h.1, denL_agree ha c h.2]
theorem denC_agree {n : Nat} {ρ ρ' : Env} (ha : Agree n ρ ρ') : ∀ l : List SV, okL n l → denC ρ' l = denC ρ l
  | [], _ => rfl
  | x :: l, h => by simp only [okL] at h; simp only [denC, den_agree ha x h.1, denC_agree ha l h.2]
theorem denL_agree {n : Nat} {ρ ρ' : Env} (ha : Agree n ρ ρ') : ∀ l : List SV, okL n l → denL ρ' l = denL ρ l
  | [], _ => rfl
  | x :: l, h => by simp only [okL] at h; simp only [denL, den_agree ha x h.1, denL_agree ha l h.2]
end

mutual
theorem ok_mono {n m : Nat} (h : n ≤ m) : ∀ x : SV, ok n x → ok m x
  | .v .., _ | .int .., _ | .bool .., _ | .str .., _ => trivial
  | .ptr .., h' | .pix .., h' | .sl .., h' | .osl .., h' | .mp .., h' => Nat.lt_of_lt_of_le h' h
  | .agg l, h' => by simp only [ok] at h' ⊢; exact okL_mono h l h'
  | .tup l, h' => by simp only [ok] at h' ⊢; exact okL_mono h l h'
  | .fam k s f, h' => by simp only [ok] at h' ⊢; exact fun i hi => ⟨(h' i hi).1, ok_mono h (f i) (h' i hi).2⟩
  | .fn f a c, h' => by simp only [ok] at h' ⊢; exact ⟨okL_mono h a h'.1, okL_mono h c h'.2⟩
theorem okL_mono {n m : Nat} (h : n ≤ m) : ∀ l : List SV, okL n l → okL m l
  | [], _ => trivial
  | x :: l, h' => by simp only [okL] at h' ⊢; exact ⟨ok_mono h x h'.1, okL_mono h l h'.2⟩
end
theorem okL_iff {n : Nat} : ∀ {l : List SV}, okL n l ↔ ∀ x ∈ l, ok n x
  | [] => by simp [okL]
  | x :: l => by simp [okL, okL_iff (l := l)]
end Go.Sx
