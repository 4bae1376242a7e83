/-
  Laws on int's bit operations. No program in sight.
-/
import Derived.WalkKit
namespace Go.Proofs.Ytnpflnplpipipaa
open Go.RowKit

theorem i64_and_mask (n : Int) (k : Nat) (hk : k ≤ 62) : bits .and .i64 n ((2 ^ k - 1 : Nat) : Int) = n % ((2 ^ k : Nat) : Int) := by
  have hp : 2 ^ k ≤ 2 ^ 62 := Nat.pow_le_pow_right (by omega) hk
  have hp0 : 0 < 2 ^ k := Nat.pow_pos (by omega)
  have hm : (BitVec.ofInt 64 ((2 ^ k - 1 : Nat) : Int)).toNat = 2 ^ k - 1 := by
    rw [BitVec.toNat_ofInt]
    omega
  have hd : (2 ^ k : Nat) ∣ 2 ^ 64 := Nat.pow_dvd_pow 2 (by omega)
  have key : (BitVec.ofInt 64 n &&& BitVec.ofInt 64 ((2 ^ k - 1 : Nat) : Int)).toNat = (n % ((2 ^ 64 : Nat) : Int)).toNat % 2 ^ k := by
    rw [BitVec.toNat_and, hm, BitVec.toNat_ofInt, Nat.and_two_pow_sub_one_eq_mod]
  show IntKind.i64.wrap ((BitVec.ofInt 64 n &&& BitVec.ofInt 64 ((2 ^ k - 1 : Nat) : Int)).toNat : Nat) = _
  rw [key, IntKind.wrap_i64]
  have h1 : (((n % ((2 ^ 64 : Nat) : Int)).toNat % 2 ^ k : Nat) : Int) = n % ((2 ^ k : Nat) : Int) := by
    rw [Int.natCast_emod, Int.toNat_of_nonneg (Int.emod_nonneg _ (by omega))]
    exact Int.emod_emod_of_dvd n (Int.natCast_dvd_natCast.2 hd)
  rw [h1]
  have h2 := Int.emod_nonneg n (show ((2 ^ k : Nat) : Int) ≠ 0 by omega)
  have h3 := Int.emod_lt_of_pos n (show (0 : Int) < ((2 ^ k : Nat) : Int) by omega)
  omega
theorem i64_and63 (n : Int) : bits .and .i64 n 63 = n % 64 := i64_and_mask n 6 (by omega)
theorem i64_and1 (n : Int) : bits .and .i64 n 1 = n % 2 := i64_and_mask n 1 (by omega)

theorem or8_all : ∀ r : Fin 8, ∀ x : Fin 128, ∀ c : Fin 2, x.1 < 2 ^ r.1 → IntKind.u8.wrap ((BitVec.ofInt 8 (x.1 : Int) ||| BitVec.ofInt 8 (IntKind.u8.wrap (IntKind.i64.wrap ((c.1 : Int) * 2 ^ r.1)))).toNat : Int) = (x.1 : Int) + 2 ^ r.1 * (c.1 : Int) := by decide +kernel
/-- One bit more of a byte that has r. -/
theorem or8 {x c : Int} {r : Nat} (hr : r < 8) (hx0 : 0 ≤ x) (hx1 : x < 2 ^ r) (hc0 : 0 ≤ c) (hc1 : c ≤ 1) :
    bits .or .u8 x (IntKind.u8.wrap (IntKind.i64.wrap (c * 2 ^ r))) = x + 2 ^ r * c := by
  have h1 : (2 : Int) ^ r ≤ 128 := by
    have : ∀ r : Fin 8, (2 : Int) ^ r.1 ≤ 128 := by decide
    exact this ⟨r, hr⟩
  have hx2 : x.toNat < 2 ^ r := by
    have : ((2 ^ r : Nat) : Int) = 2 ^ r := Int.natCast_pow 2 r
    omega
  have := or8_all ⟨r, hr⟩ ⟨x.toNat, by omega⟩ ⟨c.toNat, by omega⟩ hx2
  simp only [Int.toNat_of_nonneg hx0, Int.toNat_of_nonneg hc0] at this
  exact this
theorem or8b_all : ∀ r : Fin 8, ∀ x : Fin 128, x.1 < 2 ^ r.1 → IntKind.u8.wrap ((BitVec.ofInt 8 (x.1 : Int) ||| BitVec.ofInt 8 (IntKind.u8.wrap (2 ^ r.1))).toNat : Int) = (x.1 : Int) + 2 ^ r.1 := by decide +kernel
theorem or8' {x : Int} {r : Nat} (hr : r < 8) (hx0 : 0 ≤ x) (hx1 : x < 2 ^ r) : bits .or .u8 x (IntKind.u8.wrap (2 ^ r)) = x + 2 ^ r := by
  have h1 : (2 : Int) ^ r ≤ 128 := by
    have : ∀ r : Fin 8, (2 : Int) ^ r.1 ≤ 128 := by decide
    exact this ⟨r, hr⟩
  have hx2 : x.toNat < 2 ^ r := by
    have : ((2 ^ r : Nat) : Int) = 2 ^ r := Int.natCast_pow 2 r
    omega
  have := or8b_all ⟨r, hr⟩ ⟨x.toNat, by omega⟩ hx2
  simp only [Int.toNat_of_nonneg hx0] at this
  exact this
end Go.Proofs.Ytnpflnplpipipaa