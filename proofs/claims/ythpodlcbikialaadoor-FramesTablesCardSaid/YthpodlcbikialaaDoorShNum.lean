import Derived.Test.YthpodlcbikialaaDoorShUse
import Derived.Lib.TrailingZeros
import Derived.IntWalk
namespace Go.Sh
/-! ## numbers -/
theorem w64 {n : Int} (h0 : -9223372036854775808 ≤ n) (h1 : n ≤ 9223372036854775807) : IntKind.i64.wrap n = n := IntWalk.i64_in n ⟨h0, h1⟩
theorem wu64 {n : Int} (h0 : 0 ≤ n) (h1 : n ≤ 18446744073709551615) : IntKind.u64.wrap n = n := IntWalk.u64_in n ⟨h0, h1⟩
theorem wu32 {n : Int} (h0 : 0 ≤ n) (h1 : n ≤ 4294967295) : IntKind.u32.wrap n = n := IntWalk.u32_in n ⟨h0, h1⟩
theorem wu8 {n : Int} (h0 : 0 ≤ n) (h1 : n ≤ 255) : IntKind.u8.wrap n = n := IntWalk.u8_in n ⟨h0, h1⟩
theorem ofInt_nat (b a : Nat) (h : a < 2 ^ b) : (BitVec.ofInt b (a : Int)).toNat = a := by
  rw [BitVec.ofInt_natCast, BitVec.toNat_ofNat, Nat.mod_eq_of_lt h]
theorem u64_bits (n : Nat) (h : n < 2 ^ 64) : IntKind.u64.wrap (n : Int) = n := wu64 (by omega) (by omega)
theorem u32_bits (n : Nat) (h : n < 2 ^ 32) : IntKind.u32.wrap (n : Int) = n := wu32 (by omega) (by omega)
section
variable {a b : Nat}
theorem andI_u64 (ha : a < 2 ^ 64) (hb : b < 2 ^ 64) : andI .u64 a b = ((a &&& b : Nat) : Int) := by
  unfold andI
  rw [BitVec.toNat_and]
  show IntKind.u64.wrap (((BitVec.ofInt 64 a).toNat &&& (BitVec.ofInt 64 b).toNat : Nat) : Int) = _
  rw [ofInt_nat 64 a ha, ofInt_nat 64 b hb, u64_bits _ (Nat.and_lt_two_pow _ hb)]
theorem orI_u64 (ha : a < 2 ^ 64) (hb : b < 2 ^ 64) : orI .u64 a b = ((a ||| b : Nat) : Int) := by
  unfold orI
  rw [BitVec.toNat_or]
  show IntKind.u64.wrap (((BitVec.ofInt 64 a).toNat ||| (BitVec.ofInt 64 b).toNat : Nat) : Int) = _
  rw [ofInt_nat 64 a ha, ofInt_nat 64 b hb, u64_bits _ (Nat.or_lt_two_pow ha hb)]
theorem xorI_u64 (ha : a < 2 ^ 64) (hb : b < 2 ^ 64) : xorI .u64 a b = ((a ^^^ b : Nat) : Int) := by
  unfold xorI
  rw [BitVec.toNat_xor]
  show IntKind.u64.wrap (((BitVec.ofInt 64 a).toNat ^^^ (BitVec.ofInt 64 b).toNat : Nat) : Int) = _
  rw [ofInt_nat 64 a ha, ofInt_nat 64 b hb, u64_bits _ (Nat.xor_lt_two_pow ha hb)]
theorem andNotI_u64 (ha : a < 2 ^ 64) (hb : b < 2 ^ 64) : andNotI .u64 a b = ((a &&& (2 ^ 64 - 1 - b) : Nat) : Int) := by
  unfold andNotI
  rw [BitVec.toNat_and, BitVec.toNat_not]
  show IntKind.u64.wrap (((BitVec.ofInt 64 a).toNat &&& (2 ^ 64 - 1 - (BitVec.ofInt 64 b).toNat) : Nat) : Int) = _
  rw [ofInt_nat 64 a ha, ofInt_nat 64 b hb, u64_bits _ (Nat.and_lt_two_pow _ (by omega))]
theorem notI_u64 (ha : a < 2 ^ 64) : notI .u64 a = ((2 ^ 64 - 1 - a : Nat) : Int) := by
  unfold notI
  have h1 : (if IntKind.u64.signed = true then (-1 : Int) else IntKind.u64.max) = ((2 ^ 64 - 1 : Nat) : Int) := by decide
  rw [h1, xorI_u64 (by decide) ha]
  congr 1
  apply Nat.eq_of_testBit_eq
  intro i
  rw [Nat.testBit_xor, Nat.testBit_two_pow_sub_one, show 2 ^ 64 - 1 - a = 2 ^ 64 - (a + 1) from by omega, Nat.testBit_two_pow_sub_succ ha]
  by_cases h : i < 64
  · simp [h]
  · have : a.testBit i = false := Nat.testBit_lt_two_pow (Nat.lt_of_lt_of_le ha (Nat.pow_le_pow_right (by decide) (by omega)))
    simp [h, this]
theorem shrI_nat {k : IntKind} {n : Nat} (hn : n ≤ k.bits) : shrI k a n = ((a >>> n : Nat) : Int) := by
  unfold shrI
  rw [show min (n : Int).toNat k.bits = n from by rw [Int.toNat_natCast]; exact Nat.min_eq_left hn, Nat.shiftRight_eq_div_pow]
  rw [Int.fdiv_eq_ediv_of_nonneg _ (by exact_mod_cast Nat.zero_le _)]
  norm_cast
theorem shlI_u64 {n : Nat} (hn : n < 64) (h : a <<< n < 2 ^ 64) : shlI .u64 a n = ((a <<< n : Nat) : Int) := by
  unfold shlI
  rw [show min (n : Int).toNat IntKind.u64.bits = n from by rw [Int.toNat_natCast]; exact Nat.min_eq_left (Nat.le_of_lt hn)]
  rw [Nat.shiftLeft_eq] at h ⊢
  rw [← u64_bits _ h]
  congr 1
end
end Go.Sh
