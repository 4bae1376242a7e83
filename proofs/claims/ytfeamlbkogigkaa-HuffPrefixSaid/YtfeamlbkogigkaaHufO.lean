/-
  huff: package-merge, plainly: nothing costs less; the weight is whole. No program in sight.
-/
import Derived.Test.YtfeamlbkogigkaaHufP
namespace Go.Proofs.Ytfeamlbkogigkaa

section
variable {base : List Coin} (hb : Base base)
/-- What a choice of singles, row by row, is worth; and what it weighs. -/
def worthF (C : Nat → List Coin) : Nat → Nat
  | 0 => (C 0).length
  | i + 1 => worthF C i + (C (i + 1)).length * 2 ^ (i + 1)
def weighF (C : Nat → List Coin) : Nat → Int
  | 0 => sumF Coin.w (C 0)
  | i + 1 => weighF C i + sumF Coin.w (C (i + 1))
theorem sum_take_le {l : List Coin} (h : ∀ c ∈ l, 1 ≤ c.w) {m n : Nat} (hmn : m ≤ n) : sumF Coin.w (l.take m) ≤ sumF Coin.w (l.take n) := by
  have e : l.take n = l.take m ++ (l.take n).drop m := by
    have := (List.take_append_drop m (l.take n)).symm
    rwa [List.take_take, Nat.min_eq_left hmn] at this
  rw [e, sumF_append]
  have : 0 ≤ sumF Coin.w ((l.take n).drop m) := sumF_nonneg fun c hc => by
    have := h c (List.mem_of_mem_take (List.mem_of_mem_drop hc))
    omega
  omega
include hb
/-- No choice that is worth so much weighs less. -/
theorem least_choice (C : Nat → List Coin) : ∀ i, (∀ j, j ≤ i → (C j).Sublist base) → ∀ m, m * 2 ^ i ≤ worthF C i → m ≤ (rowsF base i).length ∧ sumF Coin.w ((rowsF base i).take m) ≤ weighF C i := by
  intro i
  induction i with
  | zero =>
    intro hC m hm
    have h := least_front (hC 0 (Nat.le_refl _)) (List.Perm.refl base) hb.srt
    simp only [worthF, Nat.pow_zero, Nat.mul_one] at hm
    exact ⟨Nat.le_trans hm h.1, Int.le_trans (sum_take_le hb.pos hm) h.2⟩
  | succ i ih =>
    intro hC m hm
    rw [worthF] at hm
    have hp : 0 < 2 ^ i := Nat.pow_pos (by omega)
    obtain ⟨S, hS⟩ : ∃ S, S = worthF C i := ⟨_, rfl⟩
    obtain ⟨q, hq⟩ : ∃ q, q = S / 2 ^ (i + 1) := ⟨_, rfl⟩
    have hqS : 2 * q * 2 ^ i ≤ S := by
      have := Nat.div_mul_le_self S (2 ^ (i + 1))
      rw [← hq, Nat.pow_succ] at this
      rw [Nat.mul_comm 2 q, Nat.mul_assoc, Nat.mul_comm 2]
      exact this
    obtain ⟨h1, h2⟩ := ih (fun j hj => hC j (by omega)) (2 * q) (by rw [← hS]; exact hqS)
    have hX : (C (i + 1) ++ (pairsF (rowsF base i)).take q).Sublist (base ++ pairsF (rowsF base i)) := (hC (i + 1) (Nat.le_refl _)).append (List.take_sublist _ _)
    have h3 := least_front hX (rowF_perm base (rowsF base i)) (rowF_srt base (rowsF base i))
    have hlen : (C (i + 1) ++ (pairsF (rowsF base i)).take q).length = (C (i + 1)).length + q := by
      rw [List.length_append, List.length_take, pairsF_length]; omega
    have hmq : m ≤ (C (i + 1)).length + q := by
      rw [← hS] at hm
      have h4 : m * 2 ^ (i + 1) < ((C (i + 1)).length + q + 1) * 2 ^ (i + 1) := by
        have := Nat.lt_div_mul_add (a := S) (b := 2 ^ (i + 1)) (Nat.pow_pos (by omega))
        rw [← hq] at this
        simp only [Nat.add_mul, Nat.one_mul]
        omega
      have := Nat.lt_of_mul_lt_mul_right h4
      omega
    rw [hlen] at h3
    refine ⟨Nat.le_trans hmq h3.1, ?_⟩
    refine Int.le_trans (sum_take_le (rowsF_pos hb (i + 1)) hmq) (Int.le_trans h3.2 ?_)
    rw [sumF_append, weighF, pairsF_take _ _ h1]
    omega

/-! ### how many are taken -/
omit hb in
theorem cntF_length (i n : Nat) : (cntF base i n).length = i + 1 := by
  induction i generalizing n with
  | zero => rfl
  | succ i ih => rw [cntF, List.length_cons, ih]
omit hb in
theorem cntF_head (i n : Nat) : ∃ t, cntF base i n = (n - npF (rowsF base i) n) :: t := by
  cases i with
  | zero => exact ⟨[], rfl⟩
  | succ i => exact ⟨_, rfl⟩
theorem cntF_le (i : Nat) : ∀ n, n ≤ (rowsF base i).length → ∀ s ∈ cntF base i n, s ≤ base.length := by
  induction i with
  | zero =>
    intro n hn s hs
    simp only [cntF, List.mem_singleton] at hs
    subst hs
    exact (ns_singles hb 0 n hn).1
  | succ i ih =>
    intro n hn s hs
    rw [cntF] at hs
    rcases List.mem_cons.1 hs with rfl | hs
    · exact (ns_singles hb (i + 1) n hn).1
    · exact ih _ (np_two hb i n) s hs
theorem cntF_falls (i : Nat) : ∀ n, n ≤ (rowsF base i).length → (cntF base i n).Pairwise (fun a b => b ≤ a) := by
  induction i with
  | zero => intro n _; simp [cntF]
  | succ i ih =>
    intro n hn
    have h := ih _ (np_two hb i n)
    rw [cntF]
    refine List.pairwise_cons.2 ⟨fun b hb' => ?_, h⟩
    have hf := ns_falls hb i n _ hn rfl
    obtain ⟨t, ht⟩ := cntF_head (base := base) i (2 * npF (rowsF base (i + 1)) n)
    rw [ht] at h hb'
    rcases List.mem_cons.1 hb' with rfl | hb'
    · exact hf
    · exact Nat.le_trans ((List.pairwise_cons.1 h).1 b hb') hf
/-- The last row has all of them. -/
theorem cntF_all (i : Nat) (h2 : 2 ≤ base.length) : ∀ n, n ≤ (rowsF base i).length → 2 * base.length ≤ n + 2 → n - npF (rowsF base i) n = base.length := by
  induction i with
  | zero =>
    intro n hn h
    have h1 := (ns_singles hb 0 n hn).1
    rw [rowsF_zero_np hb] at h1 ⊢
    omega
  | succ i ih =>
    intro n hn h
    have h1 := (ns_singles hb (i + 1) n hn).1
    have hf := ns_falls hb i n _ hn rfl
    have h3 := npF_le (rowsF base (i + 1)) n
    rcases Nat.lt_or_ge (n - npF (rowsF base (i + 1)) n) base.length with hlt | hge
    · have := ih _ (np_two hb i n) (by omega)
      omega
    · omega
omit hb in
def krF : List Nat → Nat
  | [] => 0
  | s :: t => s * 2 ^ t.length + krF t
theorem krF_cnt (i : Nat) : ∀ n, krF (cntF base i n) = n * 2 ^ i := by
  induction i with
  | zero => intro n; rw [cntF, rowsF_zero_np hb]; simp [krF]
  | succ i ih =>
    intro n
    have h := npF_le (rowsF base (i + 1)) n
    rw [cntF, krF, ih, cntF_length, Nat.mul_comm 2, Nat.mul_assoc, Nat.mul_comm 2, ← Nat.pow_succ, ← Nat.add_mul, Nat.sub_add_cancel h]
end

/-! ### lengths by place -/
def addF (s : Nat) (ls : List Nat) : List Nat := (ls.take s).map (· + 1) ++ ls.drop s
def lensF (cs : List Nat) (ls : List Nat) : List Nat := cs.foldl (fun ls s => addF s ls) ls
theorem addF_length (s : Nat) (ls : List Nat) : (addF s ls).length = ls.length := by
  unfold addF
  rw [List.length_append, List.length_map, List.length_take, List.length_drop]; omega
theorem lensF_length (cs : List Nat) : ∀ ls, (lensF cs ls).length = ls.length := by
  induction cs with
  | nil => intro _; rfl
  | cons s t ih => intro ls; show (lensF t (addF s ls)).length = _; rw [ih, addF_length]
theorem addF_get (s : Nat) (ls : List Nat) (k : Nat) : (addF s ls).getD k 0 = if k < s ∧ k < ls.length then ls.getD k 0 + 1 else ls.getD k 0 := by
  unfold addF
  simp only [List.getD_eq_getElem?_getD]
  by_cases h : k < s ∧ k < ls.length
  · rw [if_pos h, List.getElem?_append_left (by simp; omega), List.getElem?_map, List.getElem?_take, if_pos h.1, List.getElem?_eq_getElem h.2]
    rfl
  · rw [if_neg h]
    rcases Nat.lt_or_ge k ls.length with h1 | h1
    · rw [List.getElem?_append_right (by simp; omega), List.length_map, List.length_take, List.getElem?_drop]
      congr 2; omega
    · rw [List.getElem?_eq_none (by simp; omega), List.getElem?_eq_none h1]
def kwF (ls : List Nat) : Int := sumF (fun l => (2 : Int) ^ (15 - l)) ls
theorem kw_addF {s t : Nat} {ls : List Nat} (hs : s ≤ ls.length) (h : ∀ k, k < s → ls.getD k 0 = t) (ht : t + 1 ≤ 15) : kwF (addF s ls) = kwF ls - s * 2 ^ (14 - t) := by
  have e : kwF ls = kwF (ls.take s) + kwF (ls.drop s) := by
    unfold kwF
    rw [← sumF_append, List.take_append_drop]
  have hall : ∀ l ∈ ls.take s, l = t := by
    intro l hl
    obtain ⟨k, hk, rfl⟩ := List.getElem_of_mem hl
    rw [List.length_take] at hk
    have := h k (by omega)
    rw [List.getD_eq_getElem?_getD, List.getElem?_eq_getElem (by omega)] at this
    rw [List.getElem_take]
    exact this
  have e1 : kwF (ls.take s) = s * 2 ^ (15 - t) := by
    unfold kwF
    rw [sumF_congr (g := fun _ => (2 : Int) ^ (15 - t)) (fun l hl => by rw [hall l hl]), sumF_const, List.length_take, Nat.min_eq_left hs]
  have e2 : kwF ((ls.take s).map (· + 1)) = s * 2 ^ (14 - t) := by
    unfold kwF
    rw [sumF_map, sumF_congr (g := fun _ => (2 : Int) ^ (14 - t)) (fun l hl => by rw [hall l hl, show 15 - (t + 1) = 14 - t by omega]), sumF_const, List.length_take, Nat.min_eq_left hs]
  have e3 : (2 : Int) ^ (15 - t) = 2 ^ (14 - t) + 2 ^ (14 - t) := by
    rw [show 15 - t = (14 - t) + 1 by omega, Int.pow_succ]; omega
  unfold addF
  rw [show kwF ((ls.take s).map (· + 1) ++ ls.drop s) = kwF ((ls.take s).map (· + 1)) + kwF (ls.drop s) from sumF_append _ _, e2, e, e1, e3, Int.mul_add]
  omega
theorem kw_lensF (cs : List Nat) : ∀ (t : Nat) (ls : List Nat), cs.Pairwise (fun a b => b ≤ a) → (∀ s ∈ cs, s ≤ ls.length) → (∀ s ∈ cs, ∀ k, k < s → ls.getD k 0 = t) → t + cs.length ≤ 15 →
    kwF (lensF cs ls) = kwF ls - krF cs * 2 ^ (15 - t - cs.length) := by
  induction cs with
  | nil => intro t ls _ _ _ _; simp [lensF, krF]
  | cons s cs ih =>
    intro t ls hp hle heq ht
    simp only [List.length_cons] at ht
    show kwF (lensF cs (addF s ls)) = _
    rw [ih (t + 1) (addF s ls) (List.pairwise_cons.1 hp).2 (fun x hx => by rw [addF_length]; exact hle x (by simp [hx])) (fun x hx k hk => ?_) (by omega), kw_addF (hle s (by simp)) (heq s (by simp)) (by omega), krF, List.length_cons]
    · have e : (2 : Int) ^ (14 - t) = 2 ^ cs.length * 2 ^ (15 - t - (cs.length + 1)) := by
        rw [← Int.pow_add]; congr 1; omega
      have e2 : 15 - (t + 1) - cs.length = 15 - t - (cs.length + 1) := by omega
      rw [e2, e]
      simp only [Int.natCast_add, Int.natCast_mul, Int.natCast_pow, Int.add_mul, Int.mul_assoc, Int.cast_ofNat_Int]
      omega
    · have h1 := (List.pairwise_cons.1 hp).1 x hx
      rw [addF_get, if_pos ⟨by omega, by have := hle x (by simp [hx]); omega⟩, heq s (by simp) k (by omega)]
theorem lensF_le (cs : List Nat) : ∀ ls k, (lensF cs ls).getD k 0 ≤ ls.getD k 0 + cs.length := by
  induction cs with
  | nil => intro ls k; exact Nat.le_refl _
  | cons s cs ih =>
    intro ls k
    have := ih (addF s ls) k
    show (lensF cs (addF s ls)).getD k 0 ≤ _
    rw [addF_get] at this
    rw [List.length_cons]
    split at this <;> omega
theorem lensF_ge (cs : List Nat) : ∀ ls k, ls.getD k 0 ≤ (lensF cs ls).getD k 0 := by
  induction cs with
  | nil => intro ls k; exact Nat.le_refl _
  | cons s cs ih =>
    intro ls k
    have := ih (addF s ls) k
    show _ ≤ (lensF cs (addF s ls)).getD k 0
    rw [addF_get] at this
    split at this <;> omega

theorem rep_zero (n k : Nat) : (List.replicate n 0).getD k 0 = 0 := by
  rw [List.getD_eq_getElem?_getD]
  rcases Nat.lt_or_ge k n with h | h
  · rw [List.getElem?_replicate, if_pos h]; rfl
  · rw [List.getElem?_replicate, if_neg (by omega)]; rfl
/-- Of sorted singles, two or more, not too many: lengths of which the weight is whole. -/
theorem whole {base : List Coin} (hb : Base base) (L : Nat) (h2 : 2 ≤ base.length) (hL : 1 ≤ L ∧ L ≤ 15) (hN : base.length ≤ 2 ^ L) :
    kwF (lensF (cntF base (L - 1) (2 * base.length - 2)) (List.replicate base.length 0)) = 2 ^ 15 ∧
    ∀ k, k < base.length → 1 ≤ (lensF (cntF base (L - 1) (2 * base.length - 2)) (List.replicate base.length 0)).getD k 0 ∧ (lensF (cntF base (L - 1) (2 * base.length - 2)) (List.replicate base.length 0)).getD k 0 ≤ L := by
  obtain ⟨i, rfl⟩ : ∃ i, L = i + 1 := ⟨L - 1, by omega⟩
  rw [Nat.add_sub_cancel]
  have hn : 2 * base.length - 2 ≤ (rowsF base i).length := by have := rowsF_enough (base := base) i hN; omega
  refine ⟨?_, fun k hk => ?_⟩
  · rw [kw_lensF _ 0 _ (cntF_falls hb i _ hn) (fun s hs => by rw [List.length_replicate]; exact cntF_le hb i _ hn s hs) (fun s hs k _ => rep_zero _ _) (by rw [cntF_length]; omega), krF_cnt hb, cntF_length]
    have e : kwF (List.replicate base.length 0) = base.length * 2 ^ 15 := by
      unfold kwF
      rw [sumF_congr (g := fun _ => (2 : Int) ^ 15) (fun l hl => by rw [(List.mem_replicate.1 hl).2]), sumF_const, List.length_replicate]
    rw [e]
    have e2 : (((2 * base.length - 2) * 2 ^ i : Nat) : Int) * 2 ^ (15 - 0 - (i + 1)) = ((2 * base.length - 2 : Nat) : Int) * 2 ^ 14 := by
      rw [Int.natCast_mul, Int.mul_assoc, Int.natCast_pow, show ((2 : Nat) : Int) = 2 by rfl, ← Int.pow_add]
      congr 2; omega
    rw [e2]
    have : ((2 * base.length - 2 : Nat) : Int) = 2 * base.length - 2 := by omega
    rw [this]
    omega
  · obtain ⟨t, ht⟩ := cntF_head (base := base) i (2 * base.length - 2)
    constructor
    · rw [ht, cntF_all hb i h2 _ hn (by omega)]
      have := lensF_ge t (addF base.length (List.replicate base.length 0)) k
      rw [addF_get, if_pos ⟨hk, by simpa using hk⟩] at this
      show 1 ≤ (lensF t (addF base.length (List.replicate base.length 0))).getD k 0
      omega
    · have := lensF_le (cntF base i (2 * base.length - 2)) (List.replicate base.length 0) k
      rw [cntF_length, rep_zero] at this
      omega
end Go.Proofs.Ytfeamlbkogigkaa
