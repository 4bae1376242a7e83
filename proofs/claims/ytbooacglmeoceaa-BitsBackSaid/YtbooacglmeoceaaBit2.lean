/-
  Laws on int's bit operations, more. No program in sight.
-/
import Derived.Test.YtbooacglmeoceaaBit
namespace Go.Proofs.Ytbooacglmeoceaa
open Go.RowKit

/-- One bit more of a number that has i. -/
theorem or64 {v c : Int} {i : Nat} (hi : i ≤ 61) (h0 : 0 ≤ v) (h1 : v < 2 ^ i) (hc0 : 0 ≤ c) (hc1 : c ≤ 1) : bits .or .i64 v (c * 2 ^ i) = v + 2 ^ i * c := by
  have hp : (2 : Int) ^ i ≤ 2305843009213693952 := by
    have h := Nat.pow_le_pow_right (show 0 < 2 by decide) hi
    have e : ((2 ^ i : Nat) : Int) = 2 ^ i := Int.natCast_pow 2 i
    have h2 : ((2 ^ i : Nat) : Int) ≤ ((2 ^ 61 : Nat) : Int) := Int.ofNat_le.2 h
    rw [e] at h2
    exact h2
  have hpn : ((2 ^ i : Nat) : Int) = 2 ^ i := Int.natCast_pow 2 i
  obtain ⟨a, rfl⟩ : ∃ a : Nat, v = a := ⟨v.toNat, by omega⟩
  have ha : a < 2 ^ i := by omega
  have hcc : c = 0 ∨ c = 1 := by omega
  have key : ∀ d : Nat, c = d → d ≤ 1 → IntKind.i64.wrap ((BitVec.ofInt 64 (a : Int) ||| BitVec.ofInt 64 (c * 2 ^ i)).toNat : Int) = a + 2 ^ i * c := by
    intro d hd hd1
    subst hd
    have e1 : ((d : Int) * 2 ^ i) = ((2 ^ i * d : Nat) : Int) := by rw [Int.natCast_mul, hpn, Int.mul_comm]
    have hb : 2 ^ i * d ≤ 2 ^ i := by
      have := Nat.mul_le_mul_left (2 ^ i) hd1
      simpa using this
    rw [e1, BitVec.ofInt_natCast, BitVec.ofInt_natCast, BitVec.toNat_or, BitVec.toNat_ofNat, BitVec.toNat_ofNat, Nat.mod_eq_of_lt (by omega), Nat.mod_eq_of_lt (by omega), Nat.or_comm, ← Nat.two_pow_add_eq_or_of_lt ha d]
    rw [IntKind.wrap_i64]
    have e2 : ((2 ^ i * d + a : Nat) : Int) = a + 2 ^ i * (d : Int) := by rw [Int.natCast_add, Int.natCast_mul, hpn]; omega
    rw [e2, ← hpn, ← Int.natCast_mul]
    omega
  rcases hcc with h | h
  · exact key 0 (by simpa using h) (by omega)
  · exact key 1 (by simpa using h) (by omega)
theorem u8_and1_all : ∀ x : Fin 256, bits .and .u8 (x.1 : Int) 1 = (x.1 : Int) % 2 := by decide +kernel
theorem u8_and1 {x : Int} (h0 : 0 ≤ x) (h1 : x < 256) : bits .and .u8 x 1 = x % 2 := by
  have := u8_and1_all ⟨x.toNat, by omega⟩
  simpa only [Int.toNat_of_nonneg h0] using this
end Go.Proofs.Ytbooacglmeoceaa
