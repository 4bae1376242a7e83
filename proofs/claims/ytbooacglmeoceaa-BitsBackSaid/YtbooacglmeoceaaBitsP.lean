/-
  Bits: lists of bits, and the bytes that they are. No program in sight.
-/
import Derived.Test.YtbooacglmeoceaaAppS
namespace Go.Proofs.Ytbooacglmeoceaa

def bi (b : Bool) : Int := if b then 1 else 0
theorem bi_bd (b : Bool) : 0 ≤ bi b ∧ bi b ≤ 1 := by cases b <;> decide
/-- The number that bits are, the lowest first. -/
def valOf : List Bool → Int
  | [] => 0
  | b :: t => bi b + 2 * valOf t
theorem valOf_bd : ∀ l : List Bool, 0 ≤ valOf l ∧ valOf l < 2 ^ l.length
  | [] => by simp [valOf]
  | b :: t => by
    have h := valOf_bd t
    have hb := bi_bd b
    simp only [valOf, List.length_cons, Int.pow_succ]
    omega
theorem valOf_append : ∀ l m : List Bool, valOf (l ++ m) = valOf l + 2 ^ l.length * valOf m
  | [], m => by simp [valOf]
  | b :: t, m => by
    simp only [List.cons_append, valOf, valOf_append t m, List.length_cons, Int.pow_succ]
    rw [Int.mul_add, Int.mul_comm (2 ^ t.length) 2, Int.mul_assoc]
    omega
theorem valOf_snoc (l : List Bool) (b : Bool) : valOf (l ++ [b]) = valOf l + 2 ^ l.length * bi b := by
  rw [valOf_append]; simp [valOf]

theorem pow2_le {a b : Nat} (h : a ≤ b) : (2 : Int) ^ a ≤ 2 ^ b := by
  have := Int.ofNat_le.2 (Nat.pow_le_pow_right (show 0 < 2 by decide) h)
  simpa [Int.natCast_pow] using this
/-- The k-th byte. -/
def byteAt (bs : List Bool) (k : Nat) : Int := valOf ((bs.drop (8 * k)).take 8)
theorem byteAt_bd (bs : List Bool) (k : Nat) : 0 ≤ byteAt bs k ∧ byteAt bs k < 256 := by
  have h := valOf_bd ((bs.drop (8 * k)).take 8)
  refine ⟨h.1, Int.lt_of_lt_of_le h.2 ?_⟩
  have hl : ((bs.drop (8 * k)).take 8).length ≤ 8 := by simp; omega
  exact pow2_le hl
/-- A byte that is not full yet. -/
theorem byteAt_bd' (bs : List Bool) : byteAt bs (bs.length / 8) < 2 ^ (bs.length % 8) := by
  have h := valOf_bd ((bs.drop (8 * (bs.length / 8))).take 8)
  have hl : ((bs.drop (8 * (bs.length / 8))).take 8).length = bs.length % 8 := by simp; omega
  rw [hl] at h
  exact h.2
theorem byteAt_out (bs : List Bool) (k : Nat) (h : bs.length ≤ 8 * k) : byteAt bs k = 0 := by
  unfold byteAt
  rw [List.drop_eq_nil_of_le h]
  rfl
theorem byteAt_snoc (bs : List Bool) (b : Bool) (k : Nat) : byteAt (bs ++ [b]) k = if k = bs.length / 8 then byteAt bs k + 2 ^ (bs.length % 8) * bi b else byteAt bs k := by
  unfold byteAt
  split
  · next h =>
    subst h
    have hl : (bs.drop (8 * (bs.length / 8))).length = bs.length % 8 := by simp; omega
    rw [List.drop_append_of_le_length (by omega), List.take_of_length_le (by simp; omega), List.take_of_length_le (by omega), valOf_snoc, hl]
  · next h =>
    by_cases hk : 8 * k ≤ bs.length
    · rw [List.drop_append_of_le_length hk, List.take_append_of_le_length (by simp; omega)]
    · rw [List.drop_eq_nil_of_le (by simp; omega), List.drop_eq_nil_of_le (by omega)]

def nbytes (n : Nat) : Nat := (n + 7) / 8
/-- The bytes. -/
def bytesOf (bs : List Bool) : List Int := (List.range (nbytes bs.length)).map (byteAt bs)
theorem bytesOf_length (bs : List Bool) : (bytesOf bs).length = nbytes bs.length := by simp [bytesOf]
theorem bytesOf_get (bs : List Bool) {k : Nat} (h : k < nbytes bs.length) : (bytesOf bs)[k]? = some (byteAt bs k) := by simp [bytesOf, h]
theorem bytesOf_bd (bs : List Bool) : ∀ x ∈ bytesOf bs, 0 ≤ x ∧ x < 256 := by
  intro x hx
  obtain ⟨k, _, rfl⟩ := List.mem_map.1 hx
  exact byteAt_bd bs k

/-- One bit more: the row in which its byte is there, that byte turned. -/
theorem bytesOf_snoc (bs : List Bool) (b : Bool) (L : List Int) (hL : L = if bs.length % 8 = 0 then bytesOf bs ++ [0] else bytesOf bs) :
    L.length = nbytes (bs.length + 1) ∧ L[bs.length / 8]? = some (byteAt bs (bs.length / 8)) ∧ bytesOf (bs ++ [b]) = L.set (bs.length / 8) (byteAt bs (bs.length / 8) + 2 ^ (bs.length % 8) * bi b) := by
  have hlen : L.length = nbytes (bs.length + 1) := by
    rw [hL]
    split <;> simp [bytesOf_length, nbytes] <;> omega
  have hget : ∀ k, k < nbytes (bs.length + 1) → L[k]? = some (byteAt bs k) := by
    intro k hk
    rw [hL]
    split
    · next h0 =>
      by_cases hk2 : k < nbytes bs.length
      · rw [List.getElem?_append_left (by rw [bytesOf_length]; exact hk2), bytesOf_get bs hk2]
      · unfold nbytes at hk hk2
        rw [List.getElem?_append_right (by rw [bytesOf_length]; unfold nbytes; omega), bytesOf_length, byteAt_out bs k (by omega)]
        have : k - nbytes bs.length = 0 := by unfold nbytes; omega
        rw [this]; rfl
    · next h0 => exact bytesOf_get bs (by unfold nbytes at *; omega)
  refine ⟨hlen, hget _ (by unfold nbytes; omega), ?_⟩
  apply List.ext_getElem?
  intro k
  by_cases hk : k < nbytes (bs.length + 1)
  · rw [bytesOf_get _ (by simpa using hk), byteAt_snoc, List.getElem?_set]
    split
    · next h => rw [if_pos h.symm, if_pos (by omega), h]
    · next h => rw [if_neg (by omega), hget k hk]
  · rw [List.getElem?_eq_none (by rw [bytesOf_length]; simp; omega), List.getElem?_eq_none (by rw [List.length_set]; omega)]

theorem bytesOf_nil : bytesOf [] = [] := rfl

/-- Aligned: zeros up to the next byte. -/
def padN (n : Nat) : Nat := (8 - n % 8) % 8
def aligned (bs : List Bool) : List Bool := bs ++ List.replicate (padN bs.length) false
theorem aligned_length (bs : List Bool) : (aligned bs).length = 8 * nbytes bs.length := by simp [aligned, padN, nbytes]; omega
theorem valOf_zeros (n : Nat) : valOf (List.replicate n false) = 0 := by
  induction n with
  | zero => rfl
  | succ n ih => simp [List.replicate_succ, valOf, bi, ih]
theorem byteAt_aligned (bs : List Bool) (k : Nat) : byteAt (aligned bs) k = byteAt bs k := by
  unfold byteAt aligned
  by_cases hk : 8 * k ≤ bs.length
  · rw [List.drop_append_of_le_length hk, List.take_append, valOf_append, List.take_replicate, valOf_zeros]
    simp
  · rw [List.drop_eq_nil_of_le (show bs.length ≤ 8 * k by omega), List.drop_eq_nil_of_le (by simp [padN]; omega)]
theorem bytesOf_aligned (bs : List Bool) : bytesOf (aligned bs) = bytesOf bs := by
  unfold bytesOf
  rw [aligned_length, show nbytes (8 * nbytes bs.length) = nbytes bs.length by unfold nbytes; omega]
  exact List.map_congr_left fun k _ => byteAt_aligned bs k

/-! ### numbers -/
def bitOf (v : Int) (i : Nat) : Bool := decide (v / 2 ^ i % 2 = 1)
theorem bi_bitOf (v : Int) (i : Nat) : bi (bitOf v i) = v / 2 ^ i % 2 := by
  unfold bi bitOf
  simp only [decide_eq_true_eq]
  split <;> omega
def bitsOf (v : Int) (n : Nat) : List Bool := (List.range n).map (bitOf v)
theorem bitsOf_length (v : Int) (n : Nat) : (bitsOf v n).length = n := by simp [bitsOf]
theorem bitsOf_succ (v : Int) (n : Nat) : bitsOf v (n + 1) = bitsOf v n ++ [bitOf v n] := by simp [bitsOf, List.range_succ]
theorem valOf_bitsOf (v : Int) : ∀ n : Nat, valOf (bitsOf v n) = v % 2 ^ n
  | 0 => by simp [bitsOf, valOf, Int.emod_one]
  | n + 1 => by
    rw [bitsOf_succ, valOf_snoc, valOf_bitsOf v n, bitsOf_length, bi_bitOf, Int.pow_succ]
    have hp : (0 : Int) < 2 ^ n := Int.pow_pos (by decide)
    obtain ⟨m, hm⟩ : ∃ m : Int, m = 2 ^ n := ⟨_, rfl⟩
    rw [← hm] at hp ⊢
    have h1 := Int.mul_ediv_add_emod v m
    have h2 := Int.mul_ediv_add_emod (v / m) 2
    have h3 : v = m * 2 * (v / m / 2) + (v % m + m * (v / m % 2)) := by
      have e : v / m = 2 * (v / m / 2) + v / m % 2 := by omega
      have e2 : m * (v / m) = m * 2 * (v / m / 2) + m * (v / m % 2) := by
        have := congrArg (m * ·) e
        simp only [Int.mul_add, ← Int.mul_assoc] at this
        exact this
      omega
    have h4 := Int.emod_nonneg v (show m ≠ 0 by omega)
    have h5 := Int.emod_lt_of_pos v hp
    have h6 : 0 ≤ m * (v / m % 2) ∧ m * (v / m % 2) ≤ m := by
      rcases Int.emod_two_eq (v / m) with h | h <;> rw [h] <;> omega
    have h7 : (v % m + m * (v / m % 2)) % (m * 2) = v % m + m * (v / m % 2) := Int.emod_eq_of_lt (by omega) (by
      rcases Int.emod_two_eq (v / m) with h | h <;> rw [h] <;> omega)
    rw [← h7]
    conv => rhs; rw [h3]
    rw [Int.add_comm (m * 2 * _), Int.add_mul_emod_self_left]

theorem bitOf_valOf : ∀ (l : List Bool) (i : Nat), bitOf (valOf l) i = l.getD i false
  | [], i => by simp [valOf, bitOf]
  | b :: t, 0 => by
    cases b <;> simp [valOf, bi, bitOf] <;> omega
  | b :: t, i + 1 => by
    have h := bitOf_valOf t i
    have hb := bi_bd b
    rw [List.getD_cons_succ, ← h]
    have : (bi b + 2 * valOf t) / 2 ^ (i + 1) = valOf t / 2 ^ i := by
      rw [Int.pow_succ, Int.mul_comm (2 ^ i) 2, ← Int.ediv_ediv_of_nonneg (by decide)]
      congr 1
      omega
    simp [bitOf, valOf, this]
end Go.Proofs.Ytbooacglmeoceaa
