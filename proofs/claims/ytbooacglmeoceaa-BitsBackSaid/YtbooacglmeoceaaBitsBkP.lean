/-
  Bits: what was put is what is read. No program in sight.
-/
import Derived.Test.YtbooacglmeoceaaBitsRd2
namespace Go.Proofs.Ytbooacglmeoceaa
open Go.RowKit

theorem byteNums_strOfNums (ns : List Int) (h : ∀ x ∈ ns, 0 ≤ x ∧ x < 256) : byteNums (strOfNums ns) = ns := by
  unfold byteNums strOfNums
  simp only [List.map_map]
  conv => rhs; rw [← List.map_id ns]
  refine List.map_congr_left fun x hx => ?_
  have := h x hx
  simp only [Function.comp, id]
  rw [UInt8.toNat_ofNat']
  omega
theorem aligned_get (bs : List Bool) (i : Nat) (hi : i < 8 * nbytes bs.length) : (aligned bs)[i]? = some (bs.getD i false) := by
  unfold aligned
  by_cases h : i < bs.length
  · rw [List.getElem?_append_left h, List.getElem?_eq_getElem h]
    simp [List.getD, h]
  · rw [List.getElem?_append_right (by omega), List.getElem?_replicate_of_lt (by unfold padN; unfold nbytes at hi; omega)]
    simp [List.getD, List.getElem?_eq_none (show bs.length ≤ i by omega)]
theorem bitsOfNums_bytesOf (bs : List Bool) : bitsOfNums (bytesOf bs) = aligned bs := by
  apply List.ext_getElem?
  intro i
  by_cases hi : i < 8 * nbytes bs.length
  · rw [aligned_get bs i hi]
    obtain ⟨q, hq⟩ : ∃ q, q = i / 8 := ⟨_, rfl⟩
    obtain ⟨r, hr⟩ : ∃ r, r = i % 8 := ⟨_, rfl⟩
    have e : i = 8 * q + r := by omega
    have hr8 : r < 8 := by omega
    rw [e, bitsOfNums_get _ q r hr8, bytesOf_get bs (by omega)]
    simp only [Option.map_some, Option.some.injEq]
    rw [byteAt, bitOf_valOf]
    simp only [List.getD, List.getElem?_take, hr8, if_true, List.getElem?_drop]
  · rw [List.getElem?_eq_none (by rw [bitsOfNums_length, bytesOf_length]; omega), List.getElem?_eq_none (by rw [aligned_length]; omega)]
theorem textBits_textOf (bs : List Bool) : textBits (textOf bs) = aligned bs := by
  unfold textBits textOf
  rw [byteNums_strOfNums _ (bytesOf_bd bs), bitsOfNums_bytesOf]
theorem textOf_size (bs : List Bool) : (textOf bs).size = nbytes bs.length := by
  have := textBits_length (textOf bs)
  rw [textBits_textOf, aligned_length] at this
  omega
end Go.Proofs.Ytbooacglmeoceaa
