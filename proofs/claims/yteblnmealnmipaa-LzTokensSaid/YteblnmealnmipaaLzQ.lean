/-
  lz: what is parsed is expanded as it was; what a token tells; a text of one byte. No program in sight.
-/
import Derived.Test.YteblnmealnmipaaLzX
import Derived.Laws.BytesArg
namespace Go.Proofs.Yteblnmealnmipaa
open Go.RowKit

/-- The first bytes. -/
def bnum (s : ByteArray) (i : Nat) : List Int := (List.range i).map fun j => ((byt s j).toNat : Int)
theorem bnum_length (s : ByteArray) (i : Nat) : (bnum s i).length = i := by simp [bnum]
theorem bnum_succ (s : ByteArray) (i : Nat) : bnum s (i + 1) = bnum s i ++ [((byt s i).toNat : Int)] := by simp [bnum, List.range_succ]
theorem bnum_get {s : ByteArray} {i j : Nat} (h : j < i) : (bnum s i)[j]? = some ((byt s j).toNat : Int) := by simp [bnum, h]
theorem bnum_all (s : ByteArray) : strOfNums (bnum s s.size) = s := by
  have h : (strOfNums (bnum s s.size)).data = s.data := by
    apply Array.toList_inj.1
    rw [strOfNums_data]
    apply List.ext_getElem?
    intro i
    by_cases hi : i < s.size
    · have hi' : i < s.data.size := hi
      rw [List.getElem?_map, bnum_get hi]
      simp [byt, Array.getD]
      rw [dif_pos hi, Array.getElem?_eq_getElem hi']
    · have hi' : ¬ i < s.data.size := hi
      rw [List.getElem?_eq_none (by simp [bnum_length]; omega), List.getElem?_eq_none (by simpa using hi')]
  cases s with
  | mk d =>
    have h2 : strOfNums (bnum ⟨d⟩ (ByteArray.size ⟨d⟩)) = ⟨(strOfNums (bnum ⟨d⟩ (ByteArray.size ⟨d⟩))).data⟩ := rfl
    rw [h2, h]
theorem copyN_bnum {s : ByteArray} {d i : Nat} (hd : 1 ≤ d) (hi : d ≤ i) : ∀ k, k ≤ comm s (i - d) i → copyN d (bnum s i) k = bnum s (i + k) := by
  intro k
  induction k with
  | zero => intro _; rfl
  | succ k ih =>
    intro hk
    have h1 := (comm_get (s := s) (a := i - d) (b := i) (j := k) (by omega)).2
    rw [copyN, ih (by omega), bnum_length, ← Nat.add_assoc, bnum_succ, List.getD_eq_getElem?_getD, bnum_get (by omega), show i + k - d = i - d + k by omega, h1]
    rfl
theorem tokAt_may {s : ByteArray} {i : Nat} : may (tokAt s i) i = true := by
  unfold tokAt
  split
  · next h =>
    have hc := found_comm h
    unfold may
    rw [if_neg (by simp only; omega)]
    simp only [decide_eq_true_eq]
    refine ⟨trivial, ?_⟩
    omega
  · unfold may
    rw [if_pos rfl]
    have := (byt s i).toNat_lt
    simp only [decide_eq_true_eq]
    refine ⟨trivial, ?_⟩
    omega
theorem tokAt_dist {s : ByteArray} {i : Nat} : (tokAt s i).dist ≤ 4096 := by
  unfold tokAt
  split
  · next h => have hc := found_comm h; simp only; omega
  · simp
theorem tokAt_step {s : ByteArray} {i : Nat} : max (tokAt s i).len 1 = stepAt s i := by
  unfold tokAt stepAt
  split
  · simp only; omega
  · rfl
theorem tokAt_len {s : ByteArray} {i : Nat} : (tokAt s i).len = if 3 ≤ (found s i).1 then (stepAt s i : Int) else 0 := by
  unfold tokAt stepAt
  split <;> rfl
theorem exp_tok {s : ByteArray} {i : Nat} {most : Int} (rest : List Tok) (hm0 : (i : Int) ≤ most) (hm : most ≤ 1000000) :
    exp most (tokAt s i :: rest) (bnum s i) = if most < i + stepAt s i then .err 12 else exp most rest (bnum s (i + stepAt s i)) := by
  have hw : IntKind.i64.wrap (most - (i : Int)) = most - i := IntWalk.i64_in _ ⟨by omega, by omega⟩
  rw [exp, bnum_length, if_neg (by simp [tokAt_may]), tokAt_step, hw]
  by_cases hlim : most < i + stepAt s i
  · rw [if_pos (by omega), if_pos hlim]
  · rw [if_neg (by omega), if_neg hlim]
    by_cases h : 3 ≤ (found s i).1
    · have hc := found_comm h
      have hl : (tokAt s i).len = (found s i).1 := by unfold tokAt; rw [if_pos h]
      have hd : (tokAt s i).dist = (found s i).2 := by unfold tokAt; rw [if_pos h]
      have hst : stepAt s i = (found s i).1 := by unfold stepAt; rw [if_pos h]
      rw [if_neg (by rw [hl]; omega), hl, hd, hst, Int.toNat_natCast, Int.toNat_natCast, copyN_bnum hc.1 hc.2.1 _ (by omega)]
    · have hl : tokAt s i = ⟨0, 0, (byt s i).toNat⟩ := by unfold tokAt; rw [if_neg h]
      have hst : stepAt s i = 1 := by unfold stepAt; rw [if_neg h]
      rw [hl, hst, if_pos rfl, bnum_succ]
theorem back_ok {s : ByteArray} {most : Int} (hs : (s.size : Int) ≤ most) (hm : most ≤ 1000000) : ∀ f i, i ≤ s.size → s.size ≤ i + f → exp most (parseN s f i) (bnum s i) = .ok (bnum s s.size) := by
  intro f
  induction f with
  | zero =>
    intro i h1 h2
    obtain rfl : i = s.size := by omega
    rw [parseN, exp]
  | succ f ih =>
    intro i h1 h2
    rw [parseN]
    split
    · next h =>
      have h3 := stepAt_le h
      have h4 := stepAt_pos s i
      rw [exp_tok _ (by omega) hm, if_neg (by omega), ih _ h3 (by omega)]
    · obtain rfl : i = s.size := by omega
      rw [exp]
theorem back_err {s : ByteArray} {most : Int} (hs : most < s.size) (hm : most ≤ 1000000) : ∀ f i : Nat, (i : Int) ≤ most → s.size ≤ i + f → exp most (parseN s f i) (bnum s i) = .err 12 := by
  intro f
  induction f with
  | zero => intro i h1 h2; omega
  | succ f ih =>
    intro i h1 h2
    rw [parseN, if_pos (by omega), exp_tok _ h1 hm]
    split
    · rfl
    · have h4 := stepAt_pos s i
      exact ih _ (by omega) (by omega)
theorem exp_parse {s : ByteArray} (h : s.size ≤ 1000000) : exp s.size (parse s) [] = .ok (bnum s s.size) := back_ok (Int.le_refl _) (by omega) s.size 0 (by omega) (by omega)
theorem exp_parse_less {s : ByteArray} {most : Int} (h : s.size ≤ 1000000) (h0 : 0 ≤ most) (h1 : most < s.size) : exp most (parse s) [] = .err 12 := back_err h1 (by omega) s.size 0 (by simpa using h0) (by omega)

/-! ### no byte stands by itself where three stood -/
theorem best_max (s : ByteArray) (i : Nat) : ∀ D d, 1 ≤ d → d ≤ D → comm s (i - d) i ≤ (best s i D).1 := by
  intro D
  induction D with
  | zero => intro d h1 h2; omega
  | succ D ih =>
    intro d h1 h2
    rw [best]
    by_cases hd : d = D + 1
    · subst hd
      split
      · exact Nat.le_refl _
      · omega
    · have := ih d h1 (by omega)
      split
      · simp only; omega
      · exact this
theorem lit_none {s : ByteArray} {i d : Nat} (h : ¬ 3 ≤ (found s i).1) (h1 : 1 ≤ d) (h2 : d ≤ i) (h3 : d ≤ 4096) (h4 : i + 3 ≤ s.size) : key3 s (i - d) ≠ key3 s i := by
  intro hk
  have hc := comm3 hk h4
  have hb := best_max s i (min i 4096) d h1 (by omega)
  apply h
  unfold found trim
  rw [if_pos (by omega)]
  omega

/-! ### a text of one byte -/
theorem comm_run {s : ByteArray} {c : UInt8} (hc : ∀ i, i < s.size → byt s i = c) {a b : Nat} (ha : a ≤ b) (hb : b ≤ s.size) : comm s a b = min 258 (s.size - b) := by
  refine comm_is (by omega) (fun j hj => ⟨by omega, by rw [hc _ (by omega), hc _ (by omega)]⟩) ?_
  by_cases h : s.size - b < 258
  · right
    intro hh
    omega
  · left; omega
theorem best_run {s : ByteArray} {c : UInt8} (hc : ∀ i, i < s.size → byt s i = c) {i : Nat} (hi : i ≤ s.size) : ∀ d, d + 1 ≤ i → (best s i (d + 1)).1 = min 258 (s.size - i) := by
  intro d
  induction d with
  | zero =>
    intro h
    rw [best, comm_run hc (by omega) hi]
    split
    · rfl
    · next h2 => simp only [best] at h2 ⊢; omega
  | succ d ih =>
    intro h
    rw [best, comm_run hc (by omega) hi, ih (by omega), if_neg (by omega), ih (by omega)]
theorem found_run {s : ByteArray} {c : UInt8} (hc : ∀ i, i < s.size → byt s i = c) {i : Nat} (hi : i ≤ s.size) (h1 : 1 ≤ i) : (found s i).1 = if 3 ≤ s.size - i then min 258 (s.size - i) else 0 := by
  obtain ⟨d, hd⟩ : ∃ d, min i 4096 = d + 1 := ⟨min i 4096 - 1, by omega⟩
  have hb := best_run hc hi d (by omega)
  unfold found
  rw [hd]
  unfold trim
  by_cases h : 3 ≤ s.size - i
  · rw [if_pos (by omega), if_pos h]; exact hb
  · rw [if_neg (by omega), if_neg h]
/-- How many tokens a rest has. -/
def runs (r : Nat) : Nat := r / 258 + if 2 < r % 258 then 1 else r % 258
theorem runs_far {r : Nat} (h : 258 ≤ r) : runs r = runs (r - 258) + 1 := by
  unfold runs
  have e1 : r / 258 = (r - 258) / 258 + 1 := by omega
  have e2 : r % 258 = (r - 258) % 258 := by omega
  rw [e1, e2]
  omega
theorem runs_near {r : Nat} (h : 3 ≤ r) (h2 : r < 258) : runs r = 1 := by
  unfold runs
  rw [Nat.div_eq_of_lt h2, Nat.mod_eq_of_lt h2, if_pos (by omega)]
theorem runs_few {r : Nat} (h : r < 3) : runs r = r := by
  unfold runs
  rw [Nat.div_eq_of_lt (by omega), Nat.mod_eq_of_lt (by omega), if_neg (by omega)]
  omega
theorem parseN_run {s : ByteArray} {c : UInt8} (hc : ∀ i, i < s.size → byt s i = c) : ∀ f i, 1 ≤ i → i ≤ s.size → s.size ≤ i + f → (parseN s f i).length = runs (s.size - i) := by
  intro f
  induction f with
  | zero =>
    intro i h0 h1 h2
    obtain rfl : i = s.size := by omega
    rw [Nat.sub_self]
    rfl
  | succ f ih =>
    intro i h0 h1 h2
    rw [parseN]
    split
    · next h =>
      have hf := found_run hc h1 h0
      have hle := stepAt_le h
      have hst : stepAt s i = if 3 ≤ (found s i).1 then (found s i).1 else 1 := rfl
      rw [List.length_cons, ih _ (by omega) hle (by have := stepAt_pos s i; omega)]
      rw [hf] at hst
      by_cases h3 : 3 ≤ s.size - i
      · rw [if_pos h3, if_pos (by omega)] at hst
        by_cases h258 : 258 ≤ s.size - i
        · rw [runs_far h258, hst, show s.size - (i + min 258 (s.size - i)) = s.size - i - 258 by omega]
        · rw [runs_near h3 (by omega), hst, show s.size - (i + min 258 (s.size - i)) = 0 by omega]
          rfl
      · rw [if_neg h3, if_neg (by omega)] at hst
        rw [hst, runs_few (by omega), runs_few (by omega)]
        omega
    · obtain rfl : i = s.size := by omega
      rw [Nat.sub_self]
      rfl
theorem found_zero (s : ByteArray) : found s 0 = (0, 0) := rfl
theorem parse_run {s : ByteArray} {c : UInt8} (hc : ∀ i, i < s.size → byt s i = c) (h : 1 ≤ s.size) : (parse s).length = 1 + runs (s.size - 1) := by
  unfold parse
  obtain ⟨f, hf⟩ : ∃ f, s.size = f + 1 := ⟨s.size - 1, by omega⟩
  have e : parseN s s.size 0 = tokAt s 0 :: parseN s f (0 + stepAt s 0) := by
    conv => lhs; rw [hf]
    rw [parseN, if_pos (by omega)]
  have hst : stepAt s 0 = 1 := by unfold stepAt; rw [found_zero]; rfl
  rw [e, hst, List.length_cons, parseN_run hc f (0 + 1) (by omega) (by omega) (by omega), Nat.zero_add]
  omega
theorem parse_run4 {s : ByteArray} {c : UInt8} (hc : ∀ i, i < s.size → byt s i = c) (h : s.size < 4) : (parse s).length = s.size := by
  by_cases h0 : s.size = 0
  · unfold parse; rw [h0]; rfl
  · rw [parse_run hc (by omega), runs_few (by omega)]; omega
end Go.Proofs.Yteblnmealnmipaa
