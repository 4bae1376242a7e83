/-
  huff: canonical codes, plainly. No program in sight.
-/
import Derived.Test.YtfeamlbkogigkaaHufK
namespace Go.Proofs.Ytfeamlbkogigkaa

/-- How many lengths are k. -/
def cntL (l : List Int) (k : Nat) : Nat := l.countP fun x => decide (x = (k : Int))
/-- The first code of a length. -/
def lowT (n : Nat) (x : Int) : Int := if 0 < x ∧ x < n then 2 ^ (n - x.toNat) else 0
def lowF (l : List Int) (n : Nat) : Int := sumF (lowT n) l
/-- As the counts have it: none of length 0. -/
def cntC (l : List Int) (k : Nat) : Int := if k = 0 then 0 else cntL l k
/-- A symbol's code. -/
def codeF (l : List Int) (s : Nat) : Int := if 0 < l.getD s 0 then lowF l (l.getD s 0).toNat + cntL (l.take s) (l.getD s 0).toNat else 0
def codesF (l : List Int) : List Int := (List.range l.length).map (codeF l)
theorem codesF_length (l : List Int) : (codesF l).length = l.length := by simp [codesF]
theorem codesF_get {l : List Int} {s : Nat} (h : s < l.length) : (codesF l).getD s 0 = codeF l s := by
  unfold codesF
  rw [List.getD_eq_getElem?_getD]
  simp [h]

section
variable {l : List Int}
theorem cntL_take_succ {k s : Nat} (h : s < l.length) : cntL (l.take (s + 1)) k = cntL (l.take s) k + if l.getD s 0 = (k : Int) then 1 else 0 := by
  unfold cntL
  rw [List.take_add_one, getD_get h, List.countP_append]
  simp
theorem cntL_le (l : List Int) (k : Nat) : cntL l k ≤ l.length := List.countP_le_length
theorem cntL_take_le (l : List Int) (s k : Nat) : cntL (l.take s) k ≤ cntL l k := (List.take_sublist s l).countP_le
theorem cntL_mono {s t k : Nat} (h : s ≤ t) : cntL (l.take s) k ≤ cntL (l.take t) k := by
  have : (l.take t).take s = l.take s := by rw [List.take_take, Nat.min_eq_left h]
  rw [← this]
  exact cntL_take_le _ _ _
theorem lowT_nonneg (n : Nat) (x : Int) : 0 ≤ lowT n x := by
  unfold lowT
  split
  · exact Int.le_of_lt (Int.pow_pos (by omega))
  · exact Int.le_refl _
theorem lowF_nonneg (l : List Int) (n : Nat) : 0 ≤ lowF l n := sumF_nonneg fun x _ => lowT_nonneg n x
theorem lowF_zero (l : List Int) : lowF l 0 = 0 := by
  unfold lowF
  rw [sumF_congr (g := fun _ => 0) (fun x _ => by unfold lowT; rw [if_neg]; rintro ⟨h1, h2⟩; have : x < 0 := h2; omega), sumF_const]
  simp
theorem lowF_succ (l : List Int) (n : Nat) : lowF l (n + 1) = 2 * (lowF l n + cntC l n) := by
  have key : ∀ x : Int, lowT (n + 1) x = 2 * (lowT n x + if x = (n : Int) ∧ n ≠ 0 then 1 else 0) := by
    intro x
    unfold lowT
    by_cases h1 : 0 < x ∧ x < n
    · rw [if_pos h1, if_pos ⟨h1.1, by omega⟩, if_neg (by omega), show n + 1 - x.toNat = (n - x.toNat) + 1 by omega, Int.pow_succ]
      omega
    · rw [if_neg h1]
      by_cases h2 : x = (n : Int) ∧ n ≠ 0
      · rw [if_pos h2, if_pos ⟨by omega, by omega⟩]
        have : n + 1 - x.toNat = 1 := by omega
        rw [this]
        rfl
      · rw [if_neg h2, if_neg (by omega)]
        rfl
  unfold lowF
  rw [sumF_congr (fun x _ => key x)]
  clear key
  have h2 : ∀ l : List Int, sumF (fun x => 2 * (lowT n x + if x = (n : Int) ∧ n ≠ 0 then 1 else 0)) l = 2 * (sumF (lowT n) l + cntC l n) := by
    intro l
    induction l with
    | nil => simp [sumF, cntC, cntL]
    | cons x t ih =>
      rw [sumF_cons, ih, sumF_cons]
      unfold cntC cntL
      rw [List.countP_cons]
      by_cases hn : n = 0
      · simp [hn]; omega
      · by_cases hx : x = (n : Int)
        · simp [hn, hx]; omega
        · simp [hn, hx]; omega
  exact h2 l
theorem low_weight (hl : ∀ x ∈ l, 0 ≤ x ∧ x ≤ 15) : lowF l 15 + cntC l 15 = sumF wtF l := by
  have h := lowF_succ l 15
  have key : lowF l 16 = 2 * sumF wtF l := by
    unfold lowF
    clear h
    induction l with
    | nil => rfl
    | cons x t ih =>
      rw [sumF_cons, sumF_cons, ih fun y hy => hl y (by simp [hy])]
      have := hl x (by simp)
      have e : lowT 16 x = 2 * wtF x := by
        unfold lowT wtF
        by_cases hx : 0 < x
        · rw [if_pos ⟨hx, by omega⟩, if_pos hx, show 16 - x.toNat = (15 - x.toNat) + 1 by omega, Int.pow_succ]
          omega
        · rw [if_neg (by omega), if_neg hx]; rfl
      rw [e]
      omega
  have e : lowF l (15 + 1) = lowF l 16 := rfl
  rw [e, key] at h
  omega
theorem cntC_nonneg (l : List Int) (k : Nat) : 0 ≤ cntC l k := by unfold cntC; split <;> omega
/-- What a level takes, further on. -/
theorem low_far (l : List Int) (n : Nat) : ∀ d, 2 ^ (d + 1) * (lowF l n + cntC l n) ≤ lowF l (n + 1 + d) := by
  intro d
  induction d with
  | zero => rw [Nat.add_zero, lowF_succ]; simp
  | succ d ih =>
    rw [← Nat.add_assoc, lowF_succ, Int.pow_succ]
    have := cntC_nonneg l (n + 1 + d)
    have e : (2 : Int) ^ (d + 1) * 2 * (lowF l n + cntC l n) = 2 * (2 ^ (d + 1) * (lowF l n + cntC l n)) := by
      rw [Int.mul_comm (2 ^ (d + 1)) 2, Int.mul_assoc]
    rw [e]
    omega
/-- What is not too great is so on each level. -/
theorem low_room (hl : ∀ x ∈ l, 0 ≤ x ∧ x ≤ 15) (hw : sumF wtF l ≤ 2 ^ 15) (n : Nat) (hn : n ≤ 15) : lowF l n + cntC l n ≤ 2 ^ n := by
  rw [← low_weight hl] at hw
  rcases Nat.lt_or_ge n 15 with h | h
  · have h1 := low_far l n (14 - n)
    have e : n + 1 + (14 - n) = 15 := by omega
    rw [e] at h1
    have h2 := cntC_nonneg l 15
    have h3 : (2 : Int) ^ (14 - n + 1) * (lowF l n + cntC l n) ≤ 2 ^ (14 - n + 1) * 2 ^ n := by
      rw [← Int.pow_add, show 14 - n + 1 + n = 15 by omega]
      omega
    exact Int.le_of_mul_le_mul_left h3 (Int.pow_pos (by omega))
  · have : n = 15 := by omega
    subst this
    exact hw
theorem counts_get (hl : ∀ x ∈ l, 0 ≤ x ∧ x ≤ 15) (k : Nat) (hk : k < 16) : (countsF l).getD k 0 = cntC l k := by
  have hb : (bumpF (zerosF 16) l).length = 16 := by rw [bumpF_length]; simp [zerosF]
  unfold countsF cntC
  rw [List.getD_eq_getElem?_getD, List.getElem?_set]
  by_cases h0 : k = 0
  · subst h0
    rw [if_pos rfl, if_pos rfl, if_pos (by omega)]
    rfl
  · rw [if_neg (fun e => h0 e.symm), if_neg h0, ← List.getD_eq_getElem?_getD, bumpF_get _ _ _ (fun x hx => ⟨x.toNat, by have := hl x hx; omega, by have := hl x hx; simp [zerosF]; omega⟩), zeros_get]
    unfold cntL
    omega
theorem counts_length (l : List Int) : (countsF l).length = 16 := by unfold countsF; rw [List.length_set, bumpF_length]; simp [zerosF]
theorem left_step (l : List Int) (hl : ∀ x ∈ l, 0 ≤ x ∧ x ≤ 15) : ∀ m j, j + m = 15 → lowF l j + cntC l j ≤ 2 ^ j →
    leftL (2 ^ j - (lowF l j + cntC l j)) ((countsF l).drop (1 + j)) = if sumF wtF l ≤ 2 ^ 15 then 2 ^ 15 - sumF wtF l else -1 := by
  intro m
  induction m with
  | zero =>
    intro j hj hle
    have : j = 15 := by omega
    subst this
    rw [List.drop_eq_nil_of_le (by rw [counts_length]; omega), leftL]
    rw [low_weight hl] at hle ⊢
    rw [if_pos hle]
  | succ m ih =>
    intro j hj hle
    have hd : (countsF l).drop (1 + j) = (countsF l).getD (1 + j) 0 :: (countsF l).drop (1 + (j + 1)) := by
      have := counts_length l
      rw [List.drop_eq_getElem_cons (by omega), List.getD_eq_getElem?_getD, List.getElem?_eq_getElem (by omega)]
      rfl
    rw [hd, leftL, counts_get hl _ (by omega)]
    have e : 2 * (2 ^ j - (lowF l j + cntC l j)) - cntC l (1 + j) = 2 ^ (j + 1) - (lowF l (j + 1) + cntC l (j + 1)) := by
      rw [lowF_succ, Int.pow_succ, Nat.add_comm 1 j]
      omega
    rw [e]
    by_cases hneg : 2 ^ (j + 1) - (lowF l (j + 1) + cntC l (j + 1)) < 0
    · rw [if_pos hneg, if_neg]
      intro hw
      have := low_room hl hw (j + 1) (by omega)
      omega
    · rw [if_neg hneg]
      exact ih (j + 1) (by omega) (by omega)
theorem left_law (hl : ∀ x ∈ l, 0 ≤ x ∧ x ≤ 15) : leftF (countsF l) = if sumF wtF l ≤ 2 ^ 15 then 2 ^ 15 - sumF wtF l else -1 := by
  have := left_step l hl 15 0 rfl (by rw [lowF_zero]; simp [cntC])
  rw [lowF_zero] at this
  exact this

/-! ### codes -/
theorem code_lt {s : Nat} (hs : s < l.length) (h0 : 0 < l.getD s 0) : codeF l s + 1 ≤ lowF l (l.getD s 0).toNat + cntC l (l.getD s 0).toNat := by
  unfold codeF cntC
  rw [if_pos h0, if_neg (by omega)]
  have h1 := cntL_take_succ (k := (l.getD s 0).toNat) hs
  rw [if_pos (by omega)] at h1
  have h2 := cntL_take_le l (s + 1) (l.getD s 0).toNat
  omega
theorem code_nonneg (s : Nat) : 0 ≤ codeF l s := by
  unfold codeF
  split
  · have := lowF_nonneg l (l.getD s 0).toNat; omega
  · omega
/-- Each code goes into its length. -/
theorem code_fits (hl : ∀ x ∈ l, 0 ≤ x ∧ x ≤ 15) (hw : sumF wtF l ≤ 2 ^ 15) {s : Nat} (hs : s < l.length) (h0 : 0 < l.getD s 0) : codeF l s < 2 ^ (l.getD s 0).toNat := by
  have h1 := code_lt hs h0
  have hm : l.getD s 0 ∈ l := by rw [List.getD_eq_getElem?_getD, List.getElem?_eq_getElem hs]; exact List.getElem_mem _
  have h2 := low_room hl hw (l.getD s 0).toNat (by have := hl _ hm; omega)
  omega
/-- No code is the beginning of another one's. -/
theorem code_prefix {i j : Nat} (hi : i < l.length) (hj : j < l.length) (h0 : 0 < l.getD i 0) (hij : l.getD i 0 ≤ l.getD j 0) (hne : i ≠ j) : codeF l j / 2 ^ ((l.getD j 0).toNat - (l.getD i 0).toNat) ≠ codeF l i := by
  rcases Int.lt_or_eq_of_le hij with h | h
  · have h1 := code_lt hi h0
    have h2 := low_far l (l.getD i 0).toNat ((l.getD j 0).toNat - (l.getD i 0).toNat - 1)
    have e1 : (l.getD j 0).toNat - (l.getD i 0).toNat - 1 + 1 = (l.getD j 0).toNat - (l.getD i 0).toNat := by omega
    have e2 : (l.getD i 0).toNat + 1 + ((l.getD j 0).toNat - (l.getD i 0).toNat - 1) = (l.getD j 0).toNat := by omega
    rw [e1, e2] at h2
    have h3 : lowF l (l.getD j 0).toNat ≤ codeF l j := by unfold codeF; rw [if_pos (by omega)]; omega
    have hp : (0 : Int) < 2 ^ ((l.getD j 0).toNat - (l.getD i 0).toNat) := Int.pow_pos (by omega)
    have h4 : (codeF l i + 1) * 2 ^ ((l.getD j 0).toNat - (l.getD i 0).toNat) ≤ codeF l j := by
      have := Int.mul_le_mul_of_nonneg_left h1 (Int.le_of_lt hp)
      rw [Int.mul_comm (codeF l i + 1)]
      omega
    have h5 := (Int.le_ediv_iff_mul_le hp).2 h4
    omega
  · rw [h, Nat.sub_self]
    simp only [Int.pow_zero, Int.ediv_one]
    unfold codeF
    rw [if_pos (by omega), if_pos h0, h]
    intro he
    rcases Nat.lt_trichotomy i j with h1 | h1 | h1
    · have h2 := cntL_take_succ (l := l) (k := (l.getD j 0).toNat) hi
      rw [if_pos (by omega)] at h2
      have h3 := cntL_mono (l := l) (k := (l.getD j 0).toNat) (show i + 1 ≤ j by omega)
      omega
    · exact hne h1
    · have h2 := cntL_take_succ (l := l) (k := (l.getD j 0).toNat) hj
      rw [if_pos (by omega)] at h2
      have h3 := cntL_mono (l := l) (k := (l.getD j 0).toNat) (show j + 1 ≤ i by omega)
      omega

/-! ### the document's sum -/
/-- What stands ahead of a symbol, of the first k, in parts of 2^15. -/
def befT (l : List Int) (s t : Nat) : Int := if 0 < l.getD t 0 ∧ (l.getD t 0 < l.getD s 0 ∨ l.getD t 0 = l.getD s 0 ∧ t < s) then 2 ^ (15 - (l.getD t 0).toNat) else 0
def befN (l : List Int) (s : Nat) : Nat → Int
  | 0 => 0
  | k + 1 => befN l s k + befT l s k
theorem bef_law (hl : ∀ x ∈ l, 0 ≤ x ∧ x ≤ 15) {s : Nat} (hs : s < l.length) (h0 : 0 < l.getD s 0) : ∀ k, k ≤ l.length → befN l s k = 2 ^ (15 - (l.getD s 0).toNat) * (lowF (l.take k) (l.getD s 0).toNat + cntL (l.take (min k s)) (l.getD s 0).toNat) := by
  intro k
  induction k with
  | zero => intro _; simp [befN, lowF, sumF, cntL]
  | succ k ih =>
    intro hk
    have hks : k < l.length := by omega
    rw [befN, ih (by omega)]
    have e1 : lowF (l.take (k + 1)) (l.getD s 0).toNat = lowF (l.take k) (l.getD s 0).toNat + lowT (l.getD s 0).toNat (l.getD k 0) := sum_take_succ hks
    have hm : l.getD s 0 ∈ l := by rw [List.getD_eq_getElem?_getD, List.getElem?_eq_getElem hs]; exact List.getElem_mem _
    have hmk : l.getD k 0 ∈ l := by rw [List.getD_eq_getElem?_getD, List.getElem?_eq_getElem hks]; exact List.getElem_mem _
    have b1 := hl _ hm
    have b2 := hl _ hmk
    rw [e1]
    have e2 : cntL (l.take (min (k + 1) s)) (l.getD s 0).toNat = cntL (l.take (min k s)) (l.getD s 0).toNat + if l.getD k 0 = l.getD s 0 ∧ k < s then 1 else 0 := by
      by_cases hk2 : k < s
      · rw [show min (k + 1) s = k + 1 by omega, show min k s = k by omega, cntL_take_succ hks]
        congr 1
        by_cases h : l.getD k 0 = l.getD s 0
        · rw [if_pos (by omega), if_pos ⟨h, hk2⟩]
        · rw [if_neg (by omega), if_neg (fun hh => h hh.1)]
      · rw [show min (k + 1) s = s by omega, show min k s = s by omega, if_neg (fun hh => hk2 hh.2)]
        omega
    rw [e2]
    have e3 : befT l s k = 2 ^ (15 - (l.getD s 0).toNat) * (lowT (l.getD s 0).toNat (l.getD k 0) + ((if l.getD k 0 = l.getD s 0 ∧ k < s then 1 else 0 : Nat) : Int)) := by
      unfold befT lowT
      by_cases h1 : 0 < l.getD k 0 ∧ l.getD k 0 < l.getD s 0
      · rw [if_pos ⟨h1.1, .inl h1.2⟩, if_pos ⟨h1.1, by omega⟩, if_neg (by omega)]
        simp only [Int.cast_ofNat_Int, Int.add_zero]
        rw [← Int.pow_add]
        congr 1
        omega
      · by_cases h2 : l.getD k 0 = l.getD s 0 ∧ k < s
        · rw [if_pos ⟨by omega, .inr h2⟩, if_neg (by omega), if_pos h2, h2.1]
          simp
        · rw [if_neg (fun hh => by rcases hh.2 with h | h; exact h1 ⟨hh.1, h⟩; exact h2 h), if_neg (by omega), if_neg h2]
          simp
    rw [e3]
    simp only [Int.natCast_add, Int.mul_add]
    omega
theorem bef_code (hl : ∀ x ∈ l, 0 ≤ x ∧ x ≤ 15) {s : Nat} (hs : s < l.length) (h0 : 0 < l.getD s 0) : befN l s l.length = 2 ^ (15 - (l.getD s 0).toNat) * codeF l s := by
  rw [bef_law hl hs h0 _ (Nat.le_refl _), List.take_length, Nat.min_eq_right (by omega)]
  unfold codeF
  rw [if_pos h0]
theorem bef_shift (hl : ∀ x ∈ l, 0 ≤ x ∧ x ≤ 15) {s : Nat} (hs : s < l.length) (h0 : 0 < l.getD s 0) : befN l s l.length / 2 ^ (15 - (l.getD s 0).toNat) = codeF l s := by
  rw [bef_code hl hs h0]
  exact Int.mul_ediv_cancel_left _ (by have : (0 : Int) < 2 ^ (15 - (l.getD s 0).toNat) := Int.pow_pos (by omega); omega)
theorem befT_bounds (hl : ∀ x ∈ l, 0 ≤ x ∧ x ≤ 15) (s t : Nat) : 0 ≤ befT l s t ∧ befT l s t ≤ 16384 := by
  unfold befT
  split
  · next h =>
    have h1 : (2 : Int) ^ (15 - (l.getD t 0).toNat) ≤ 2 ^ 14 := by
      have : (2 : Nat) ^ (15 - (l.getD t 0).toNat) ≤ 2 ^ 14 := Nat.pow_le_pow_right (by omega) (by omega)
      exact_mod_cast this
    have h2 : (0 : Int) < 2 ^ (15 - (l.getD t 0).toNat) := Int.pow_pos (by omega)
    omega
  · omega
theorem befN_bounds (hl : ∀ x ∈ l, 0 ≤ x ∧ x ≤ 15) (s k : Nat) : 0 ≤ befN l s k ∧ befN l s k ≤ k * 16384 := by
  induction k with
  | zero => simp [befN]
  | succ k ih => rw [befN]; have := befT_bounds hl s k; omega
end
end Go.Proofs.Ytfeamlbkogigkaa
