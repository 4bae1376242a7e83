/-
  Bits: what stands at a place is what was put. No program in sight.
-/
import Derived.Test.YtbooacglmeoceaaBitsBkQ
namespace Go.Proofs.Ytbooacglmeoceaa
open Go.RowKit

theorem i64_and_low (n : Int) {N : Nat} (hN : N ≤ 62) : bits .and .i64 n (IntKind.i64.wrap (IntKind.i64.wrap (2 ^ N) - 1)) = n % 2 ^ N := by
  have hp : (2 : Int) ^ N ≤ 2 ^ 62 := pow2_le hN
  have hp0 : (0 : Int) < 2 ^ N := Int.pow_pos (by decide)
  have h62 : (2 : Int) ^ 62 = 4611686018427387904 := by decide
  have hc : ((2 ^ N : Nat) : Int) = 2 ^ N := Int.natCast_pow 2 N
  have h := i64_and_mask n N hN
  have hp1 : 0 < 2 ^ N := Nat.pow_pos (by decide)
  rw [show IntKind.i64.wrap (2 ^ N) = 2 ^ N from IntWalk.i64_in _ ⟨by omega, by omega⟩, show IntKind.i64.wrap (2 ^ N - 1) = 2 ^ N - 1 from IntWalk.i64_in _ ⟨by omega, by omega⟩]
  rw [show ((2 ^ N - 1 : Nat) : Int) = 2 ^ N - 1 by omega, hc] at h
  exact h
theorem text_back {t s : ByteArray} {p : Nat} {r : List Bool} (hp : p ≤ 8 * t.size) (h : (textBits t).drop p = List.replicate (padN p) false ++ textBits s ++ r) :
    nbytes p + s.size ≤ t.size ∧ t.extract (nbytes p) (nbytes p + s.size) = s := by
  have h8 : p + padN p = 8 * nbytes p := by unfold padN nbytes; omega
  have h2 : (textBits t).drop (8 * nbytes p) = textBits s ++ r := by
    rw [← h8, ← List.drop_drop, h, List.append_assoc, List.drop_left' (by simp)]
  have hl := congrArg List.length h2
  rw [List.length_drop, List.length_append, textBits_length, textBits_length] at hl
  have hb : s.size = 0 ∨ nbytes p + s.size ≤ t.size := by omega
  have hle : nbytes p + s.size ≤ t.size := by
    rcases hb with h0 | h0
    · have h1 := congrArg List.length h
      simp only [List.length_drop, List.length_append, List.length_replicate, textBits_length] at h1
      omega
    · exact h0
  refine ⟨hle, ?_⟩
  have key : ∀ j (hj : j < s.size), t[nbytes p + j]'(by omega) = s[j] := by
    intro j hj
    have hbit : ∀ i, i < 8 → bitOf ((t[nbytes p + j]'(by omega)).toNat : Int) i = bitOf ((s[j].toNat : Nat) : Int) i := by
      intro i hi
      have e1 := textBits_get t (q := nbytes p + j) (by omega) hi
      have e2 := textBits_get s hj hi
      have e3 : (textBits t)[8 * nbytes p + (8 * j + i)]? = (textBits s)[8 * j + i]? := by
        rw [← List.getElem?_drop, h2, List.getElem?_append_left (by rw [textBits_length]; omega)]
      rw [show 8 * (nbytes p + j) + i = 8 * nbytes p + (8 * j + i) by omega, e3, e2] at e1
      exact (Option.some.inj e1).symm
    have hv : ((t[nbytes p + j]'(by omega)).toNat : Int) = (s[j].toNat : Int) := by
      have a1 := valOf_bitsOf ((t[nbytes p + j]'(by omega)).toNat : Int) 8
      have a2 := valOf_bitsOf ((s[j].toNat : Nat) : Int) 8
      have a3 : bitsOf ((t[nbytes p + j]'(by omega)).toNat : Int) 8 = bitsOf ((s[j].toNat : Nat) : Int) 8 := by
        unfold bitsOf
        exact List.map_congr_left fun i hi => hbit i (List.mem_range.1 hi)
      have b1 := (t[nbytes p + j]'(by omega)).toNat_lt
      have b2 := s[j].toNat_lt
      rw [a3, a2] at a1
      omega
    exact UInt8.toNat_inj.1 (by omega)
  apply ByteArray.ext
  apply Array.ext
  · have := @ByteArray.size_extract t (nbytes p) (nbytes p + s.size)
    show (t.extract (nbytes p) (nbytes p + s.size)).size = s.size
    omega
  · intro i h1 h3
    have := key i h3
    have hx : (t.extract (nbytes p) (nbytes p + s.size)).data = t.data.extract (nbytes p) (nbytes p + s.size) := ByteArray.data_extract ..
    simp only [hx, Array.getElem_extract]
    exact this
theorem rev_bit (v : Int) (N m : Nat) (hm : m + 1 ≤ N) (bs r : List Bool) (p : Nat) (h : bs.drop p = (bitsOf v N).reverse ++ r) :
    (bs.drop (p + (N - (m + 1)))).take 1 = [bitOf v m] ∧ p + (N - (m + 1)) + 1 = p + (N - m) := by
  refine ⟨?_, by omega⟩
  rw [← List.drop_drop, h, List.drop_append_of_le_length (by rw [List.length_reverse, bitsOf_length]; omega)]
  have hg : ((bitsOf v N).reverse)[N - (m + 1)]? = some (bitOf v m) := by
    rw [List.getElem?_reverse (by rw [bitsOf_length]; omega), bitsOf_length]
    unfold bitsOf
    rw [List.getElem?_map, List.getElem?_range (by omega)]
    simp only [Option.map_some, Option.some.injEq]
    congr 1
    omega
  obtain ⟨hlt, he⟩ := List.getElem?_eq_some_iff.1 hg
  rw [List.drop_eq_getElem_cons hlt, he]
  simp
theorem last_zero (bs : List Bool) : 8 * nbytes bs.length - bs.length < 8 ∧ bs.length ≤ 8 * nbytes bs.length ∧ valOf (((textBits (textOf bs)).drop bs.length).take (8 * nbytes bs.length - bs.length)) = 0 := by
  refine ⟨by unfold nbytes; omega, by unfold nbytes; omega, ?_⟩
  rw [textBits_textOf, aligned, List.drop_left, List.take_replicate, valOf_zeros]
end Go.Proofs.Ytbooacglmeoceaa
