/- Whole numbers of a width as rows of bits. No condition. -/
import Derived.Test.YtloinbebkhcndaaSxr
set_option linter.all false
namespace Go.Sx

/-- The number that a row of bits stands for. -/
def nat {n : Nat} (x : BitVec n) : Int := (x.toNat : Int)

theorem ofInt_nat {n m : Nat} (x : BitVec n) : BitVec.ofInt m (nat x) = x.setWidth m := by
  apply BitVec.eq_of_toNat_eq
  simp [nat, BitVec.toNat_ofInt]

theorem wrapU {k : IntKind} (hs : k.signed = false) (n : Int) : k.wrap n = n % 2 ^ k.bits := by
  simp only [IntKind.wrap, hs, Bool.false_and, Bool.false_eq_true, if_false]
theorem wrap_small {k : IntKind} (hs : k.signed = false) {n : Int} (h0 : 0 ≤ n) (h1 : n < 2 ^ k.bits) : k.wrap n = n := by
  rw [wrapU hs, Int.emod_eq_of_lt h0 h1]
theorem nat_nonneg {n : Nat} (x : BitVec n) : 0 ≤ nat x := by simp [nat]
theorem nat_lt {n : Nat} (x : BitVec n) : nat x < 2 ^ n := by
  have := x.isLt
  simp only [nat]
  exact_mod_cast this
theorem nat_inj {n : Nat} {x y : BitVec n} : nat x = nat y ↔ x = y := by
  simp only [nat, Int.ofNat_inj, BitVec.toNat_inj]

section
variable {n : Nat}
theorem nat_add (x y : BitVec n) : (nat x + nat y) % 2 ^ n = nat (x + y) := by
  simp only [nat, BitVec.toNat_add]
  push_cast
  rfl
theorem nat_mul (x y : BitVec n) : (nat x * nat y) % 2 ^ n = nat (x * y) := by
  simp only [nat, BitVec.toNat_mul]
  push_cast
  rfl
theorem nat_sub (x y : BitVec n) : (nat x - nat y) % 2 ^ n = nat (x - y) := by
  have h1 := x.isLt
  have h2 := y.isLt
  simp only [nat, BitVec.toNat_sub]
  push_cast
  rw [Int.ofNat_sub (by omega)]
  push_cast
  rw [show (2 : Int) ^ n - (y.toNat : Int) + (x.toNat : Int) = ((x.toNat : Int) - y.toNat) + 2 ^ n by omega, Int.add_emod_right]
theorem nat_shl (x : BitVec n) (s : Nat) : (nat x * 2 ^ s) % 2 ^ n = nat (x <<< s) := by
  simp only [nat, BitVec.toNat_shiftLeft, Nat.shiftLeft_eq]
  push_cast
  rfl
theorem nat_shr (x : BitVec n) (s : Nat) : (nat x).fdiv (2 ^ s) = nat (x >>> s) := by
  simp only [nat, BitVec.toNat_ushiftRight, Nat.shiftRight_eq_div_pow]
  rw [Int.fdiv_eq_ediv_of_nonneg _ (Int.le_of_lt (Int.pow_pos (by decide)))]
  push_cast
  rfl
end

section
variable (x y : BitVec 32) (b c : BitVec 8) (u v : BitVec 64)
theorem add32 : IntKind.u32.wrap (nat x + nat y) = nat (x + y) := by rw [wrapU rfl]; exact nat_add x y
theorem sub32 : IntKind.u32.wrap (nat x - nat y) = nat (x - y) := by rw [wrapU rfl]; exact nat_sub x y
theorem add8 : IntKind.u8.wrap (nat b + nat c) = nat (b + c) := by rw [wrapU rfl]; exact nat_add b c
theorem sub8 : IntKind.u8.wrap (nat b - nat c) = nat (b - c) := by rw [wrapU rfl]; exact nat_sub b c
theorem add64 : IntKind.u64.wrap (nat u + nat v) = nat (u + v) := by rw [wrapU rfl]; exact nat_add u v
theorem mul64 : IntKind.u64.wrap (nat u * nat v) = nat (u * v) := by rw [wrapU rfl]; exact nat_mul u v
theorem shl32 (s : Nat) (hs : s ≤ 32) : shlS .u32 (nat x) s = nat (x <<< s) := by
  unfold shlS
  rw [wrapU rfl, show min (s : Int).toNat IntKind.u32.bits = s from by show min _ 32 = s; omega]
  exact nat_shl x s
theorem shr32 (s : Nat) (hs : s ≤ 32) : shrS .u32 (nat x) s = nat (x >>> s) := by
  unfold shrS
  rw [show min (s : Int).toNat IntKind.u32.bits = s from by show min _ 32 = s; omega]
  exact nat_shr x s
theorem shl8 (s : Nat) (hs : s ≤ 8) : shlS .u8 (nat b) s = nat (b <<< s) := by
  unfold shlS
  rw [wrapU rfl, show min (s : Int).toNat IntKind.u8.bits = s from by show min _ 8 = s; omega]
  exact nat_shl b s
theorem shr8 (s : Nat) (hs : s ≤ 8) : shrS .u8 (nat b) s = nat (b >>> s) := by
  unfold shrS
  rw [show min (s : Int).toNat IntKind.u8.bits = s from by show min _ 8 = s; omega]
  exact nat_shr b s
theorem shl64 (s : Nat) (hs : s ≤ 64) : shlS .u64 (nat u) s = nat (u <<< s) := by
  unfold shlS
  rw [wrapU rfl, show min (s : Int).toNat IntKind.u64.bits = s from by show min _ 64 = s; omega]
  exact nat_shl u s
theorem shr64 (s : Nat) (hs : s ≤ 64) : shrS .u64 (nat u) s = nat (u >>> s) := by
  unfold shrS
  rw [show min (s : Int).toNat IntKind.u64.bits = s from by show min _ 64 = s; omega]
  exact nat_shr u s

theorem shli8 (s : Int) (h0 : 0 ≤ s) (h1 : s ≤ 8) : shlS .u8 (nat b) s = nat (b <<< s.toNat) := by
  obtain ⟨n, rfl⟩ := Int.eq_ofNat_of_zero_le h0
  exact shl8 b n (by omega)
theorem shri8 (s : Int) (h0 : 0 ≤ s) (h1 : s ≤ 8) : shrS .u8 (nat b) s = nat (b >>> s.toNat) := by
  obtain ⟨n, rfl⟩ := Int.eq_ofNat_of_zero_le h0
  exact shr8 b n (by omega)
theorem shli32 (s : Int) (h0 : 0 ≤ s) (h1 : s ≤ 32) : shlS .u32 (nat x) s = nat (x <<< s.toNat) := by
  obtain ⟨n, rfl⟩ := Int.eq_ofNat_of_zero_le h0
  exact shl32 x n (by omega)
theorem shri32 (s : Int) (h0 : 0 ≤ s) (h1 : s ≤ 32) : shrS .u32 (nat x) s = nat (x >>> s.toNat) := by
  obtain ⟨n, rfl⟩ := Int.eq_ofNat_of_zero_le h0
  exact shr32 x n (by omega)
theorem shli64 (s : Int) (h0 : 0 ≤ s) (h1 : s ≤ 64) : shlS .u64 (nat u) s = nat (u <<< s.toNat) := by
  obtain ⟨n, rfl⟩ := Int.eq_ofNat_of_zero_le h0
  exact shl64 u n (by omega)
theorem shri64 (s : Int) (h0 : 0 ≤ s) (h1 : s ≤ 64) : shrS .u64 (nat u) s = nat (u >>> s.toNat) := by
  obtain ⟨n, rfl⟩ := Int.eq_ofNat_of_zero_le h0
  exact shr64 u n (by omega)

theorem wrap_nat {k : IntKind} (hs : k.signed = false) (z : BitVec k.bits) : k.wrap ((z.toNat : Nat) : Int) = nat z :=
  wrap_small hs (by omega) (by have := z.isLt; exact_mod_cast this)

theorem and32 : bits .and .u32 (nat x) (nat y) = nat (x &&& y) := by
  simp only [bits, ofInt_nat, BitVec.setWidth_eq]
  exact wrap_nat (k := .u32) rfl (x &&& y)
theorem or32 : bits .or .u32 (nat x) (nat y) = nat (x ||| y) := by
  simp only [bits, ofInt_nat, BitVec.setWidth_eq]
  exact wrap_nat (k := .u32) rfl (x ||| y)
theorem xor32 : bits .xor .u32 (nat x) (nat y) = nat (x ^^^ y) := by
  simp only [bits, ofInt_nat, BitVec.setWidth_eq]
  exact wrap_nat (k := .u32) rfl (x ^^^ y)
theorem and8 : bits .and .u8 (nat b) (nat c) = nat (b &&& c) := by
  simp only [bits, ofInt_nat, BitVec.setWidth_eq]
  exact wrap_nat (k := .u8) rfl (b &&& c)
theorem or8 : bits .or .u8 (nat b) (nat c) = nat (b ||| c) := by
  simp only [bits, ofInt_nat, BitVec.setWidth_eq]
  exact wrap_nat (k := .u8) rfl (b ||| c)
theorem and64 : bits .and .u64 (nat u) (nat v) = nat (u &&& v) := by
  simp only [bits, ofInt_nat, BitVec.setWidth_eq]
  exact wrap_nat (k := .u64) rfl (u &&& v)
theorem or64 : bits .or .u64 (nat u) (nat v) = nat (u ||| v) := by
  simp only [bits, ofInt_nat, BitVec.setWidth_eq]
  exact wrap_nat (k := .u64) rfl (u ||| v)
theorem not32 : bits .xor .u32 4294967295 (nat x) = nat (~~~x) := by
  have h : (4294967295 : Int) = nat (BitVec.allOnes 32) := by simp [nat]
  rw [h, xor32, BitVec.allOnes_xor]

theorem not32' : bits .xor .u32 (if IntKind.u32.signed = true then -1 else IntKind.u32.max) (nat x) = nat (~~~x) := not32 x

theorem c8_32 : IntKind.u32.wrap (nat b) = nat (b.setWidth 32) := by
  rw [wrap_small rfl (nat_nonneg b) (Int.lt_of_lt_of_le (nat_lt b) (by decide))]
  have := b.isLt
  simp only [nat, BitVec.toNat_setWidth]
  rw [Nat.mod_eq_of_lt (by omega)]
theorem c8_64 : IntKind.u64.wrap (nat b) = nat (b.setWidth 64) := by
  rw [wrap_small rfl (nat_nonneg b) (Int.lt_of_lt_of_le (nat_lt b) (by decide))]
  have := b.isLt
  simp only [nat, BitVec.toNat_setWidth]
  rw [Nat.mod_eq_of_lt (by omega)]
theorem c32_8 : IntKind.u8.wrap (nat x) = nat (x.setWidth 8) := by
  rw [wrapU rfl, show IntKind.u8.bits = 8 from rfl]
  simp only [nat, BitVec.toNat_setWidth]
  rw [Int.natCast_emod]; rfl
theorem c64_8 : IntKind.u8.wrap (nat u) = nat (u.setWidth 8) := by
  rw [wrapU rfl, show IntKind.u8.bits = 8 from rfl]
  simp only [nat, BitVec.toNat_setWidth]
  rw [Int.natCast_emod]; rfl
theorem c64_32 : IntKind.u32.wrap (nat u) = nat (u.setWidth 32) := by
  rw [wrapU rfl, show IntKind.u32.bits = 32 from rfl]
  simp only [nat, BitVec.toNat_setWidth]
  rw [Int.natCast_emod]; rfl
theorem c32_64 : IntKind.u64.wrap (nat x) = nat (x.setWidth 64) := by
  rw [wrap_small rfl (nat_nonneg x) (Int.lt_of_lt_of_le (nat_lt x) (by decide))]
  have := x.isLt
  simp only [nat, BitVec.toNat_setWidth]
  rw [Nat.mod_eq_of_lt (by omega)]
end

/-- An int that needs no wrapping. -/
theorem wrap64 {n : Int} (h0 : -9223372036854775808 ≤ n) (h1 : n < 9223372036854775808) : IntKind.i64.wrap n = n := by
  have e : IntKind.i64.bits = 64 := rfl
  simp only [IntKind.wrap, e, show IntKind.i64.signed = true from rfl, Bool.true_and, decide_eq_true_eq]
  split <;> omega
/-- The rules in one. -/
def numB := And.intro @add32 (And.intro @sub32 (And.intro @add8 (And.intro @sub8 (And.intro @add64 (And.intro @mul64 (And.intro @and32 (And.intro @or32 (And.intro @xor32 (And.intro @and8 (And.intro @or8 (And.intro @and64 (And.intro @or64 (And.intro @not32 (And.intro @not32' (And.intro @c8_32 (And.intro @c8_64 (And.intro @c32_8 (And.intro @c64_8 (And.intro @c64_32 (And.intro @c32_64 (And.intro @shli8 (And.intro @shli32 (And.intro @shli64 (And.intro @shri8 (And.intro @shri32 (@shri64))))))))))))))))))))))))))
end Go.Sx
