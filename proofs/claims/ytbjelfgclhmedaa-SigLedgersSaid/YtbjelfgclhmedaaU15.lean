/- Contracts of functions that the laws reach, by the symbolic executor of the texts Sxa to Sxt. No condition. -/
import Derived.Test.YtbjelfgclhmedaaU14
set_option linter.all false
set_option maxRecDepth 40000
namespace Go.Proofs.Ytbjelfgclhmedaa
open Go Go.Sx

theorem ld_congr {b b' : Nat → BitVec 8} (h : ∀ i, i < 64 → b i = b' i) : ld b 16 = ld b' 16 := by
  funext i
  simp only [ld]
  split
  · simp only [word]
    rw [h (4 * i) (by omega), h (4 * i + 1) (by omega), h (4 * i + 2) (by omega), h (4 * i + 3) (by omega)]
  · rfl
theorem comp_congr (s : Nat → BitVec 32) {b b' : Nat → BitVec 8} (h : ∀ i, i < 64 → b i = b' i) : comp s b = comp s b' := by
  funext i
  simp only [comp]
  rw [ld_congr h]
theorem blk_congr (w : Nat → BitVec 32) {T T' : Nat → BitVec 8} : ∀ n, (∀ i, i < 64 * n → T i = T' i) → blk w T n = blk w T' n
  | 0, _ => rfl
  | n + 1, h => by
    simp only [blk]
    rw [blk_congr w n (fun i hi => h i (by omega))]
    exact comp_congr _ fun i hi => h _ (by omega)
theorem blk_add (w : Nat → BitVec 32) (T : Nat → BitVec 8) (a : Nat) : ∀ b, blk w T (a + b) = blk (blk w T a) (fun i => T (64 * a + i)) b
  | 0 => rfl
  | b + 1 => by
    show comp (blk w T (a + b)) _ = comp (blk (blk w T a) _ b) _
    rw [blk_add w T a b]
    congr 1
    funext i
    congr 1
    simp only [Nat.add_eq]
    omega
theorem mul8 (x : BitVec 64) : x * 8#64 = x <<< 3 := by
  rw [BitVec.shiftLeft_eq_mul_twoPow]
  rfl
theorem ref_sum (len : Nat) (B : Nat → BitVec 8) : dig (blk iv (padX len (BitVec.ofNat 64 len * 8#64) B) ((len + 1 + zW len + 8) / 64)) = shaD len B := by
  have hz : zW len = zs (len - 64 * (len / 64)) := by simp only [zW, zs]; congr 2; omega
  have hz2 : zs (len - 64 * (len / 64)) < 64 := Nat.mod_lt _ (by decide)
  have hn : (len + 1 + zW len + 8) / 64 = len / 64 + (len - 64 * (len / 64) + 1 + zs (len - 64 * (len / 64)) + 8) / 64 := by omega
  simp only [shaD]
  rw [hn, blk_add]
  congr 1
  rw [blk_congr iv (T := padX len (BitVec.ofNat 64 len * 8#64) B) (T' := cat 0 (fun _ => 0) B) (len / 64) fun i hi => ?_]
  · congr 1
    funext i
    simp only [padX, padF, pad0, padW, cat, Nat.not_lt_zero, if_false, Nat.sub_zero]
    rw [hz, mul8]
    generalize zs (len - 64 * (len / 64)) = z at hz2
    by_cases h1 : i < len - 64 * (len / 64)
    · have : 64 * (len / 64) + i < len := by omega
      have h2 : 64 * (len / 64) + i < len + 1 + z := by omega
      have h3 : i < len - 64 * (len / 64) + 1 + z := by omega
      simp only [h1, this, h2, h3, if_true]
    · have : ¬ 64 * (len / 64) + i < len := by omega
      have e : (64 * (len / 64) + i = len) = (i = len - 64 * (len / 64)) := by simp only [eq_iff_iff]; omega
      have e2 : (64 * (len / 64) + i < len + 1 + z) = (i < len - 64 * (len / 64) + 1 + z) := by simp only [eq_iff_iff]; omega
      have e3 : 64 * (len / 64) + i - (len + 1 + z) = i - (len - 64 * (len / 64) + 1 + z) := by omega
      simp only [h1, this, e, e2, e3, if_false]
  · simp only [padX, padW, cat, Nat.not_lt_zero, if_false, Nat.sub_zero]
    have h1 : i < len := by omega
    have h2 : i < len + 1 + zW len := by omega
    simp only [h1, h2, if_true]
end Go.Proofs.Ytbjelfgclhmedaa
