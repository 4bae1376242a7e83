/-
  Texts of this claim, one behind the other: huff; huff; huff; huff; huff; append of a string's bytes to a slice of the call's own; bytes made a string. No program in sight; Bits; huff; Laws on int's bit operations. No program in sight; Laws on int's bit operations, more. No program in sight; huff; huff; flate; lz; lz; lz; inflate; What an int, a byte, a string are to the program.
-/
import Derived.Test.YtpbodonmiepilaaSb1
import Derived.Lib.AppendStr
import Derived.Deep.AppendSrc
import Derived.Laws.BytesArg
import Derived.WalkKit
import Derived.Test.YtpbodonmiepilaaRows
set_option linter.unusedVariables false
/- huff: package-merge, plainly: sums, rows of coins, what is taken of them, and why nothing costs less. No program in sight. -/
namespace Go.Proofs.Ytpbodonmiepilaa

/-! ### sums -/
def sumF {α : Type} (f : α → Int) : List α → Int
  | [] => 0
  | x :: t => f x + sumF f t
section
variable {α β : Type} {f g : α → Int}
theorem sumF_nil : sumF f [] = 0 := rfl
theorem sumF_cons (x : α) (t : List α) : sumF f (x :: t) = f x + sumF f t := rfl
theorem sumF_append (a b : List α) : sumF f (a ++ b) = sumF f a + sumF f b := by
  induction a with
  | nil => simp [sumF]
  | cons x t ih => rw [List.cons_append, sumF_cons, sumF_cons, ih]; omega
theorem sumF_perm {a b : List α} (h : a.Perm b) : sumF f a = sumF f b := by
  induction h with
  | nil => rfl
  | cons x _ ih => rw [sumF_cons, sumF_cons, ih]
  | swap x y l => simp only [sumF_cons]; omega
  | trans _ _ h1 h2 => exact h1.trans h2
theorem sumF_congr {l : List α} (h : ∀ x ∈ l, f x = g x) : sumF f l = sumF g l := by
  induction l with
  | nil => rfl
  | cons x t ih => rw [sumF_cons, sumF_cons, h x (by simp), ih fun y hy => h y (by simp [hy])]
theorem sumF_map (m : β → α) (l : List β) : sumF f (l.map m) = sumF (fun x => f (m x)) l := by
  induction l with
  | nil => rfl
  | cons x t ih => rw [List.map_cons, sumF_cons, sumF_cons, ih]
theorem sumF_mono {l : List α} (h : ∀ x ∈ l, f x ≤ g x) : sumF f l ≤ sumF g l := by
  induction l with
  | nil => exact Int.le_refl _
  | cons x t ih =>
    rw [sumF_cons, sumF_cons]
    have := h x (by simp)
    have := ih fun y hy => h y (by simp [hy])
    omega
theorem sumF_nonneg {l : List α} (h : ∀ x ∈ l, 0 ≤ f x) : 0 ≤ sumF f l := by
  induction l with
  | nil => exact Int.le_refl _
  | cons x t ih =>
    rw [sumF_cons]
    have := h x (by simp)
    have := ih fun y hy => h y (by simp [hy])
    omega
theorem sumF_filter (p : α → Bool) (l : List α) : sumF f l = sumF f (l.filter p) + sumF f (l.filter fun x => !p x) := by
  induction l with
  | nil => rfl
  | cons x t ih =>
    rw [sumF_cons, ih, List.filter_cons, List.filter_cons]
    cases p x <;> simp [sumF_cons] <;> omega
theorem sumF_sub {a b : List α} (h : a.Sublist b) (hf : ∀ x ∈ b, f x ≤ 0) : sumF f b ≤ sumF f a := by
  induction h with
  | slnil => exact Int.le_refl _
  | cons x _ ih =>
    have := ih fun y hy => hf y (by simp [hy])
    have := hf x (by simp)
    rw [sumF_cons]; omega
  | cons_cons x _ ih =>
    have := ih fun y hy => hf y (by simp [hy])
    rw [sumF_cons, sumF_cons]; omega
theorem sumF_add (l : List α) : sumF (fun x => f x + g x) l = sumF f l + sumF g l := by
  induction l with
  | nil => rfl
  | cons x t ih => simp only [sumF_cons, ih]; omega
theorem sumF_const (c : Int) (l : List α) : sumF (fun _ => c) l = l.length * c := by
  induction l with
  | nil => simp [sumF]
  | cons x t ih => rw [sumF_cons, ih, List.length_cons, Int.natCast_add, Int.add_mul]; simp; omega
end
theorem perm_filter {α : Type} {p : α → Bool} {a b : List α} (h : a.Perm b) : (a.filter p).Perm (b.filter p) := h.filter p

/-! ### the least of a sorted row -/
section
variable {α : Type} {key : α → Int}
/-- No choice of so many costs less than the first so many of the sorted row. -/
theorem least_front {X Y R : List α} (hX : X.Sublist Y) (hY : Y.Perm R) (hR : Srt key R) : X.length ≤ R.length ∧ sumF key (R.take X.length) ≤ sumF key X := by
  have hl : X.length ≤ R.length := by rw [← hY.length_eq]; exact hX.length_le
  refine ⟨hl, ?_⟩
  rcases Nat.eq_zero_or_pos X.length with h0 | h0
  · rw [h0, List.take_zero, List.eq_nil_of_length_eq_zero h0]; exact Int.le_refl _
  have hm : X.length - 1 < R.length := by omega
  obtain ⟨t, ht⟩ : ∃ t, t = key (R[X.length - 1]) := ⟨_, rfl⟩
  have hsplit : R = R.take X.length ++ R.drop X.length := (List.take_append_drop _ _).symm
  have hlow : ∀ x ∈ R.take X.length, key x ≤ t := by
    intro x hx
    obtain ⟨i, hi, rfl⟩ := List.getElem_of_mem hx
    rw [List.length_take] at hi
    rw [List.getElem_take, ht]
    rcases Nat.lt_or_ge i (X.length - 1) with h | h
    · exact List.pairwise_iff_getElem.1 hR i (X.length - 1) (by omega) hm h
    · have : i = X.length - 1 := by omega
      subst this; exact Int.le_refl _
  have hhigh : ∀ x ∈ R.drop X.length, t ≤ key x := by
    intro x hx
    obtain ⟨i, hi, rfl⟩ := List.getElem_of_mem hx
    rw [List.length_drop] at hi
    rw [List.getElem_drop, ht]
    exact List.pairwise_iff_getElem.1 hR (X.length - 1) (X.length + i) hm (by omega) (by omega)
  let m : α → Int := fun x => if key x < t then key x - t else 0
  have e1 : sumF m R = sumF key (R.take X.length) - X.length * t := by
    rw [hsplit, sumF_append]
    have a1 : sumF m (R.drop X.length) = 0 := by
      rw [sumF_congr (g := fun _ => 0) (fun x hx => by simp only [m]; rw [if_neg (by have := hhigh x hx; omega)]), sumF_const]; simp
    have a2 : sumF m (R.take X.length) = sumF (fun x => key x + -t) (R.take X.length) := sumF_congr fun x hx => by
      simp only [m]
      have := hlow x hx
      split <;> omega
    rw [a1, a2, sumF_add, sumF_const, List.length_take, Nat.min_eq_left hl, ← hsplit, Int.mul_neg]
    omega
  have e2 : sumF m Y ≤ sumF m X := sumF_sub hX fun x _ => by simp only [m]; split <;> omega
  have e3 : sumF m X ≤ sumF (fun x => key x + -t) X := sumF_mono fun x _ => by simp only [m]; split <;> omega
  rw [sumF_add, sumF_const, Int.mul_neg] at e3
  rw [sumF_perm hY, e1] at e2
  omega
end

/-! ### rows -/
def pairsF : List Coin → List Coin
  | a :: b :: t => ⟨a.w + b.w, true⟩ :: pairsF t
  | _ => []
def rowF (base ahead : List Coin) : List Coin := sortF Coin.w (base ++ pairsF ahead)
def rowsF (base : List Coin) : Nat → List Coin
  | 0 => base
  | i + 1 => rowF base (rowsF base i)
/-- How many pairs are among the first so many. -/
def npF (l : List Coin) (n : Nat) : Nat := (l.take n).countP fun c => c.pair
/-- How many singles are taken, row by row, from the last on. -/
def cntF (base : List Coin) : Nat → Nat → List Nat
  | 0, n => [n - npF (rowsF base 0) n]
  | i + 1, n => (n - npF (rowsF base (i + 1)) n) :: cntF base i (2 * npF (rowsF base (i + 1)) n)

theorem pairsF_length : ∀ l : List Coin, (pairsF l).length = l.length / 2
  | [] => rfl
  | [_] => by simp [pairsF]
  | a :: b :: t => by rw [pairsF, List.length_cons, pairsF_length t]; simp only [List.length_cons]; omega
theorem pairsF_pair : ∀ (l : List Coin) (c : Coin), c ∈ pairsF l → c.pair = true
  | [], _, h => by simp [pairsF] at h
  | [_], _, h => by simp [pairsF] at h
  | a :: b :: t, c, h => by
    rw [pairsF] at h
    rcases List.mem_cons.1 h with rfl | h
    · rfl
    · exact pairsF_pair t c h
theorem pairsF_ge : ∀ (l : List Coin) (m : Int), (∀ c ∈ l, m ≤ c.w) → ∀ c ∈ pairsF l, m + m ≤ c.w
  | [], _, _, _, h => by simp [pairsF] at h
  | [_], _, _, _, h => by simp [pairsF] at h
  | a :: b :: t, m, hm, c, h => by
    rw [pairsF] at h
    rcases List.mem_cons.1 h with rfl | h
    · have := hm a (by simp)
      have := hm b (by simp)
      show m + m ≤ a.w + b.w
      omega
    · exact pairsF_ge t m (fun c hc => hm c (by simp [hc])) c h
theorem pairsF_le : ∀ (l : List Coin) (m : Int), (∀ c ∈ l, c.w ≤ m) → ∀ c ∈ pairsF l, c.w ≤ m + m
  | [], _, _, _, h => by simp [pairsF] at h
  | [_], _, _, _, h => by simp [pairsF] at h
  | a :: b :: t, m, hm, c, h => by
    rw [pairsF] at h
    rcases List.mem_cons.1 h with rfl | h
    · have := hm a (by simp)
      have := hm b (by simp)
      show a.w + b.w ≤ m + m
      omega
    · exact pairsF_le t m (fun c hc => hm c (by simp [hc])) c h
theorem pairsF_srt : ∀ l : List Coin, Srt Coin.w l → Srt Coin.w (pairsF l)
  | [], _ => by simp [pairsF, Srt]
  | [_], _ => by simp [pairsF, Srt]
  | a :: b :: t, h => by
    rw [pairsF]
    have h1 : ∀ x ∈ t, a.w ≤ x.w := fun x hx => (List.pairwise_cons.1 h).1 x (by simp [hx])
    have h2 : ∀ x ∈ t, b.w ≤ x.w := fun x hx => (List.pairwise_cons.1 (List.pairwise_cons.1 h).2).1 x hx
    have h0 : a.w ≤ b.w := (List.pairwise_cons.1 h).1 b (by simp)
    refine List.pairwise_cons.2 ⟨fun c hc => ?_, pairsF_srt t (List.pairwise_cons.1 (List.pairwise_cons.1 h).2).2⟩
    have := pairsF_ge t b.w h2 c hc
    show a.w + b.w ≤ c.w
    omega
theorem pairsF_take : ∀ (l : List Coin) (p : Nat), 2 * p ≤ l.length → sumF Coin.w ((pairsF l).take p) = sumF Coin.w (l.take (2 * p))
  | _, 0, _ => by simp [sumF]
  | [], p + 1, h => by simp at h
  | [_], p + 1, h => by simp at h; omega
  | a :: b :: t, p + 1, h => by
    have e : 2 * (p + 1) = 2 * p + 1 + 1 := by omega
    rw [pairsF, List.take_succ_cons, e, List.take_succ_cons, List.take_succ_cons, sumF_cons, sumF_cons, sumF_cons, pairsF_take t p (by simp at h; omega)]
    show a.w + b.w + _ = _
    omega

/-- What singles are to be. -/
structure Base (base : List Coin) : Prop where
  single : ∀ c ∈ base, c.pair = false
  srt : Srt Coin.w base
  pos : ∀ c ∈ base, 1 ≤ c.w

theorem StEq.filter {α : Type} {key : α → Int} {l m : List α} (h : StEq key l m) (p : α → Bool) : StEq key (l.filter p) (m.filter p) := fun k => by
  rw [List.filter_filter, List.filter_filter]
  have := congrArg (List.filter p) (h k)
  rw [List.filter_filter, List.filter_filter] at this
  simpa [Bool.and_comm] using this
section
variable {base : List Coin} (hb : Base base)
theorem rowF_srt (base a : List Coin) : Srt Coin.w (rowF base a) := (sortF_law _).1
theorem rowF_perm (base a : List Coin) : (base ++ pairsF a).Perm (rowF base a) := (sortF_law _).2.perm
include hb
theorem rowsF_srt (i : Nat) : Srt Coin.w (rowsF base i) := by
  cases i with
  | zero => exact hb.srt
  | succ i => exact rowF_srt _ _
theorem rowF_pairs (a : List Coin) (ha : Srt Coin.w a) : (rowF base a).filter (fun c => c.pair) = pairsF a := by
  have h1 := (sortF_law (key := Coin.w) (base ++ pairsF a)).2.filter (fun c => c.pair)
  have e : (base ++ pairsF a).filter (fun c => c.pair) = pairsF a := by
    rw [List.filter_append, List.filter_eq_nil_iff.2 (fun c hc => by simp [hb.single c hc]), List.nil_append, List.filter_eq_self.2 (fun c hc => pairsF_pair a c hc)]
  rw [e] at h1
  exact (StEq.unique (pairsF_srt a ha) ((rowF_srt base a).filter _) h1).symm
theorem rowF_singles (a : List Coin) : (rowF base a).filter (fun c => !c.pair) = base := by
  have h1 := (sortF_law (key := Coin.w) (base ++ pairsF a)).2.filter (fun c => !c.pair)
  have e : (base ++ pairsF a).filter (fun c => !c.pair) = base := by
    rw [List.filter_append, List.filter_eq_self.2 (fun c hc => by simp [hb.single c hc]), List.filter_eq_nil_iff.2 (fun c hc => by simp [pairsF_pair a c hc]), List.append_nil]
  rw [e] at h1
  exact (StEq.unique hb.srt ((rowF_srt base a).filter _) h1).symm
theorem rowsF_singles (i : Nat) : (rowsF base i).filter (fun c => !c.pair) = base := by
  cases i with
  | zero => exact List.filter_eq_self.2 (fun c hc => by simp [hb.single c hc])
  | succ i => exact rowF_singles hb _
theorem rowsF_zero_np (n : Nat) : npF (rowsF base 0) n = 0 := by
  unfold npF
  rw [List.countP_eq_zero]
  intro c hc
  simp [hb.single c (List.mem_of_mem_take hc)]
theorem rowsF_pos (i : Nat) : ∀ c ∈ rowsF base i, 1 ≤ c.w := by
  induction i with
  | zero => exact hb.pos
  | succ i ih =>
    intro c hc
    rcases List.mem_append.1 ((rowF_perm base _).symm.subset hc) with h | h
    · exact hb.pos c h
    · have := pairsF_ge _ 1 ih c h; omega
omit hb
theorem rowsF_le (i : Nat) (m : Int) (hm : 0 ≤ m) (h : ∀ c ∈ base, c.w ≤ m) : ∀ c ∈ rowsF base i, c.w ≤ 2 ^ i * m := by
  induction i with
  | zero => intro c hc; have := h c hc; simpa using this
  | succ i ih =>
    intro c hc
    have e : (2 : Int) ^ (i + 1) * m = 2 ^ i * m + 2 ^ i * m := by rw [Int.pow_succ, Int.mul_comm (2 ^ i) 2, Int.mul_assoc]; omega
    rcases List.mem_append.1 ((rowF_perm base _).symm.subset hc) with h1 | h1
    · have h2 := h c h1
      have h3 : (1 : Int) ≤ 2 ^ (i + 1) := by
        have : (0 : Int) < 2 ^ (i + 1) := Int.pow_pos (by omega)
        omega
      have := Int.mul_le_mul_of_nonneg_right h3 hm
      omega
    · rw [e]
      exact pairsF_le _ _ ih c h1
theorem rowsF_length (i : Nat) : (rowsF base (i + 1)).length = base.length + (rowsF base i).length / 2 := by
  show (rowF base (rowsF base i)).length = _
  rw [← (rowF_perm base _).length_eq, List.length_append, pairsF_length]
/-- All that is asked for is there. -/
theorem rowsF_enough (i : Nat) : base.length ≤ 2 ^ (i + 1) → 2 * base.length ≤ (rowsF base i).length + 2 := by
  have key : ∀ i, (2 * base.length - (rowsF base i).length) * 2 ^ i < base.length + 2 ^ i := by
    intro i
    induction i with
    | zero => simp [rowsF]; omega
    | succ i ih =>
      rw [rowsF_length, Nat.pow_succ]
      have e : 2 * base.length - (base.length + (rowsF base i).length / 2) ≤ (2 * base.length - (rowsF base i).length + 1) / 2 := by omega
      have h1 : (2 * base.length - (base.length + (rowsF base i).length / 2)) * 2 ≤ 2 * base.length - (rowsF base i).length + 1 := by omega
      have h2 := Nat.mul_le_mul_right (2 ^ i) h1
      rw [Nat.add_mul, Nat.one_mul] at h2
      have h3 : (2 * base.length - (base.length + (rowsF base i).length / 2)) * (2 ^ i * 2) = (2 * base.length - (base.length + (rowsF base i).length / 2)) * 2 * 2 ^ i := by
        rw [Nat.mul_assoc, Nat.mul_comm 2 (2 ^ i)]
      omega
  intro h
  have h1 := key i
  rw [Nat.pow_succ] at h
  have hp : 0 < 2 ^ i := Nat.pow_pos (by omega)
  rcases Nat.lt_or_ge (2 * base.length - (rowsF base i).length) 3 with h2 | h2
  · omega
  · have := Nat.mul_le_mul_right (2 ^ i) h2
    omega
theorem npF_le (l : List Coin) (n : Nat) : npF l n ≤ n := by
  unfold npF
  exact Nat.le_trans List.countP_le_length (by rw [List.length_take]; omega)
theorem take_filter {α : Type} (l : List α) (n : Nat) (q : α → Bool) : (l.take n).filter q = (l.filter q).take ((l.take n).countP q) := by
  have e : l.filter q = (l.take n).filter q ++ (l.drop n).filter q := by rw [← List.filter_append, List.take_append_drop]
  rw [e, List.countP_eq_length_filter, List.take_left]
include hb
/-- The pairs that are taken. -/
theorem np_pairs (i n : Nat) : npF (rowsF base (i + 1)) n ≤ (pairsF (rowsF base i)).length ∧ ((rowsF base (i + 1)).take n).filter (fun c => c.pair) = (pairsF (rowsF base i)).take (npF (rowsF base (i + 1)) n) := by
  have e := take_filter (rowsF base (i + 1)) n (fun c => c.pair)
  have e2 : (rowsF base (i + 1)).filter (fun c => c.pair) = pairsF (rowsF base i) := rowF_pairs hb _ (rowsF_srt hb i)
  rw [e2] at e
  refine ⟨?_, e⟩
  rw [← e2, ← List.countP_eq_length_filter]
  exact (List.take_sublist n (rowsF base (i + 1))).countP_le
theorem np_two (i n : Nat) : 2 * npF (rowsF base (i + 1)) n ≤ (rowsF base i).length := by
  have := (np_pairs hb i n).1
  rw [pairsF_length] at this
  omega
/-- The singles that are taken. -/
theorem ns_singles (i n : Nat) (hn : n ≤ (rowsF base i).length) : n - npF (rowsF base i) n ≤ base.length ∧ ((rowsF base i).take n).filter (fun c => !c.pair) = base.take (n - npF (rowsF base i) n) := by
  have e := take_filter (rowsF base i) n (fun c => !c.pair)
  rw [rowsF_singles hb] at e
  have hc : ((rowsF base i).take n).countP (fun c => !c.pair) = n - npF (rowsF base i) n := by
    have h := List.length_eq_countP_add_countP (fun c : Coin => c.pair) (l := (rowsF base i).take n)
    rw [List.length_take, Nat.min_eq_left hn] at h
    have h2 : ((rowsF base i).take n).countP (fun c => !c.pair) = ((rowsF base i).take n).countP (fun c => decide (¬ c.pair = true)) := by
      congr 1; funext c; cases c.pair <;> rfl
    rw [h2]
    unfold npF
    omega
  rw [hc] at e
  refine ⟨?_, e⟩
  rw [← hc]
  have h3 := (List.take_sublist n (rowsF base i)).countP_le (p := fun c => !c.pair)
  rw [List.countP_eq_length_filter (l := rowsF base i), rowsF_singles hb] at h3
  exact h3
/-- What the first of a row weigh. -/
theorem front_sum (i n : Nat) (hn : n ≤ (rowsF base (i + 1)).length) :
    sumF Coin.w ((rowsF base (i + 1)).take n) = sumF Coin.w (base.take (n - npF (rowsF base (i + 1)) n)) + sumF Coin.w ((rowsF base i).take (2 * npF (rowsF base (i + 1)) n)) := by
  rw [sumF_filter (fun c => c.pair), (np_pairs hb i n).2, (ns_singles hb (i + 1) n hn).2, pairsF_take _ _ (np_two hb i n)]
  omega
/-- The weight of all that is taken. -/
theorem taken_sum (i : Nat) : ∀ n, n ≤ (rowsF base i).length → sumF (fun s => sumF Coin.w (base.take s)) (cntF base i n) = sumF Coin.w ((rowsF base i).take n) := by
  induction i with
  | zero =>
    intro n hn
    rw [cntF, rowsF_zero_np hb]
    simp [sumF, rowsF]
  | succ i ih =>
    intro n hn
    rw [cntF, sumF_cons, ih _ (np_two hb i n), front_sum hb i n hn]
/-- Each row takes no more singles than the one behind it. -/
theorem ns_falls (i n m : Nat) (hn : n ≤ (rowsF base (i + 1)).length) (hm : m = 2 * npF (rowsF base (i + 1)) n) :
    m - npF (rowsF base i) m ≤ n - npF (rowsF base (i + 1)) n := by
  subst hm
  have hs1 := ns_singles hb (i + 1) n hn
  have hs0 := ns_singles hb i _ (np_two hb i n)
  have hp := np_pairs hb i n
  obtain ⟨P, hP⟩ : ∃ P, P = npF (rowsF base (i + 1)) n := ⟨_, rfl⟩
  obtain ⟨s1, h1⟩ : ∃ s, s = n - P := ⟨_, rfl⟩
  obtain ⟨s0, h0⟩ : ∃ s, s = 2 * P - npF (rowsF base i) (2 * P) := ⟨_, rfl⟩
  rw [← hP] at hs1 hs0 hp ⊢
  rw [← h1] at hs1 ⊢
  rw [← h0] at hs0 ⊢
  refine Nat.le_of_not_lt fun hlt => ?_
  have hk : s1 < base.length := by omega
  -- the single number s1 is among the first 2P of row i
  have hin : base[s1] ∈ (rowsF base i).take (2 * P) := by
    have : base[s1] ∈ ((rowsF base i).take (2 * P)).filter (fun c => !c.pair) := by
      rw [hs0.2]
      exact List.mem_take_iff_getElem.2 ⟨s1, by omega, rfl⟩
    exact (List.mem_filter.1 this).1
  -- so a pair among the first P weighs more
  have hpair : ∀ (l : List Coin) (P : Nat) (c : Coin), (∀ c ∈ l, 1 ≤ c.w) → 2 * P ≤ l.length → c ∈ l.take (2 * P) → ∃ d ∈ (pairsF l).take P, c.w < d.w := by
    intro l
    induction l using pairsF.induct with
    | case1 a b t ih =>
      intro P c hpos hl hc
      cases P with
      | zero => simp at hc
      | succ P =>
        have e : 2 * (P + 1) = 2 * P + 1 + 1 := by omega
        rw [e, List.take_succ_cons, List.take_succ_cons] at hc
        rw [pairsF, List.take_succ_cons]
        have ha := hpos a (by simp)
        have hb := hpos b (by simp)
        rcases List.mem_cons.1 hc with rfl | hc
        · exact ⟨_, List.mem_cons_self, by show c.w < c.w + b.w; omega⟩
        · rcases List.mem_cons.1 hc with rfl | hc
          · exact ⟨_, List.mem_cons_self, by show c.w < a.w + c.w; omega⟩
          · obtain ⟨d, hd, hlt⟩ := ih P c (fun c hc => hpos c (by simp [hc])) (by simp at hl; omega) hc
            exact ⟨d, List.mem_cons_of_mem _ hd, hlt⟩
    | case2 l h =>
      intro P c _ hl hc
      have : P = 0 := by
        match l, h with
        | [], _ => simp at hl; omega
        | [_], _ => simp at hl; omega
        | a :: b :: t, h => exact absurd rfl (h a b t)
      subst this
      simp at hc
  obtain ⟨d, hd, hlt2⟩ := hpair (rowsF base i) P base[s1] (rowsF_pos hb i) (by rw [hP]; exact np_two hb i n) hin
  rw [← hp.2] at hd
  have hd' := (List.mem_filter.1 hd).1
  -- the row is sorted: all that weighs less lies ahead of it
  have hall : base[s1] ∈ (rowsF base (i + 1)).take n := by
    have hmem : base[s1] ∈ rowsF base (i + 1) := by
      have : base[s1] ∈ (rowsF base (i + 1)).filter (fun c => !c.pair) := by rw [rowsF_singles hb]; exact List.getElem_mem _
      exact (List.mem_filter.1 this).1
    have hsp := List.take_append_drop n (rowsF base (i + 1))
    rw [← hsp] at hmem
    rcases List.mem_append.1 hmem with h | h
    · exact h
    · exfalso
      have := (by rw [hsp]; exact rowsF_srt hb (i + 1) : Srt Coin.w ((rowsF base (i + 1)).take n ++ (rowsF base (i + 1)).drop n)).across d hd' _ h
      omega
  have : base[s1] ∈ ((rowsF base (i + 1)).take n).filter (fun c => !c.pair) := List.mem_filter.2 ⟨hall, by simp [hb.single _ (List.getElem_mem hk)]⟩
  rw [hs1.2] at this
  -- but it is not among the first s1 of the singles by weight alone: count
  have hcount : (base.take (s1 + 1)).length ≤ s1 := by
    have hsub : ∀ c ∈ base.take (s1 + 1), c.w ≤ base[s1].w := by
      intro c hc
      obtain ⟨j, hj, rfl⟩ := List.getElem_of_mem hc
      rw [List.length_take] at hj
      rw [List.getElem_take]
      rcases Nat.lt_or_ge j s1 with h | h
      · exact List.pairwise_iff_getElem.1 hb.srt j s1 (by omega) hk h
      · have : j = s1 := by omega
        subst this; exact Int.le_refl _
    have hpre : (base.take (s1 + 1)).countP (fun c => decide (c.w < d.w)) = s1 + 1 := by
      rw [List.countP_eq_length.2 (fun c hc => by have := hsub c hc; simp; omega), List.length_take]; omega
    have hle : base.countP (fun c => decide (c.w < d.w)) ≤ s1 := by
      have e1 : base.countP (fun c => decide (c.w < d.w)) = (((rowsF base (i + 1)).filter (fun c => !c.pair))).countP (fun c => decide (c.w < d.w)) := by rw [rowsF_singles hb]
      have e2 : ((rowsF base (i + 1)).drop n).countP (fun c => decide (c.w < d.w)) = 0 := by
        rw [List.countP_eq_zero]
        intro c hc
        have hsp := List.take_append_drop n (rowsF base (i + 1))
        have := (by rw [hsp]; exact rowsF_srt hb (i + 1) : Srt Coin.w ((rowsF base (i + 1)).take n ++ (rowsF base (i + 1)).drop n)).across d hd' _ hc
        simp; omega
      rw [e1, ← List.take_append_drop n (rowsF base (i + 1)), List.filter_append, List.countP_append, hs1.2]
      have e3 : (((rowsF base (i + 1)).drop n).filter (fun c => !c.pair)).countP (fun c => decide (c.w < d.w)) = 0 := by
        rw [List.countP_eq_zero] at e2 ⊢
        intro c hc
        exact e2 c (List.mem_filter.1 hc).1
      rw [e3]
      have := List.countP_le_length (p := fun c : Coin => decide (c.w < d.w)) (l := base.take s1)
      rw [List.length_take] at this
      omega
    have := (List.take_sublist (s1 + 1) base).countP_le (p := fun c : Coin => decide (c.w < d.w))
    omega
  rw [List.length_take] at hcount
  omega
end
end Go.Proofs.Ytpbodonmiepilaa
/- huff: package-merge, plainly: nothing costs less; the weight is whole. No program in sight. -/
namespace Go.Proofs.Ytpbodonmiepilaa

section
variable {base : List Coin} (hb : Base base)
/-- What a choice of singles, row by row, is worth; and what it weighs. -/
def worthF (C : Nat → List Coin) : Nat → Nat
  | 0 => (C 0).length
  | i + 1 => worthF C i + (C (i + 1)).length * 2 ^ (i + 1)
def weighF (C : Nat → List Coin) : Nat → Int
  | 0 => sumF Coin.w (C 0)
  | i + 1 => weighF C i + sumF Coin.w (C (i + 1))
theorem sum_take_le {l : List Coin} (h : ∀ c ∈ l, 1 ≤ c.w) {m n : Nat} (hmn : m ≤ n) : sumF Coin.w (l.take m) ≤ sumF Coin.w (l.take n) := by
  have e : l.take n = l.take m ++ (l.take n).drop m := by
    have := (List.take_append_drop m (l.take n)).symm
    rwa [List.take_take, Nat.min_eq_left hmn] at this
  rw [e, sumF_append]
  have : 0 ≤ sumF Coin.w ((l.take n).drop m) := sumF_nonneg fun c hc => by
    have := h c (List.mem_of_mem_take (List.mem_of_mem_drop hc))
    omega
  omega
include hb
/-- No choice that is worth so much weighs less. -/
theorem least_choice (C : Nat → List Coin) : ∀ i, (∀ j, j ≤ i → (C j).Sublist base) → ∀ m, m * 2 ^ i ≤ worthF C i → m ≤ (rowsF base i).length ∧ sumF Coin.w ((rowsF base i).take m) ≤ weighF C i := by
  intro i
  induction i with
  | zero =>
    intro hC m hm
    have h := least_front (hC 0 (Nat.le_refl _)) (List.Perm.refl base) hb.srt
    simp only [worthF, Nat.pow_zero, Nat.mul_one] at hm
    exact ⟨Nat.le_trans hm h.1, Int.le_trans (sum_take_le hb.pos hm) h.2⟩
  | succ i ih =>
    intro hC m hm
    rw [worthF] at hm
    have hp : 0 < 2 ^ i := Nat.pow_pos (by omega)
    obtain ⟨S, hS⟩ : ∃ S, S = worthF C i := ⟨_, rfl⟩
    obtain ⟨q, hq⟩ : ∃ q, q = S / 2 ^ (i + 1) := ⟨_, rfl⟩
    have hqS : 2 * q * 2 ^ i ≤ S := by
      have := Nat.div_mul_le_self S (2 ^ (i + 1))
      rw [← hq, Nat.pow_succ] at this
      rw [Nat.mul_comm 2 q, Nat.mul_assoc, Nat.mul_comm 2]
      exact this
    obtain ⟨h1, h2⟩ := ih (fun j hj => hC j (by omega)) (2 * q) (by rw [← hS]; exact hqS)
    have hX : (C (i + 1) ++ (pairsF (rowsF base i)).take q).Sublist (base ++ pairsF (rowsF base i)) := (hC (i + 1) (Nat.le_refl _)).append (List.take_sublist _ _)
    have h3 := least_front hX (rowF_perm base (rowsF base i)) (rowF_srt base (rowsF base i))
    have hlen : (C (i + 1) ++ (pairsF (rowsF base i)).take q).length = (C (i + 1)).length + q := by
      rw [List.length_append, List.length_take, pairsF_length]; omega
    have hmq : m ≤ (C (i + 1)).length + q := by
      rw [← hS] at hm
      have h4 : m * 2 ^ (i + 1) < ((C (i + 1)).length + q + 1) * 2 ^ (i + 1) := by
        have := Nat.lt_div_mul_add (a := S) (b := 2 ^ (i + 1)) (Nat.pow_pos (by omega))
        rw [← hq] at this
        simp only [Nat.add_mul, Nat.one_mul]
        omega
      have := Nat.lt_of_mul_lt_mul_right h4
      omega
    rw [hlen] at h3
    refine ⟨Nat.le_trans hmq h3.1, ?_⟩
    refine Int.le_trans (sum_take_le (rowsF_pos hb (i + 1)) hmq) (Int.le_trans h3.2 ?_)
    rw [sumF_append, weighF, pairsF_take _ _ h1]
    omega

/-! ### how many are taken -/
omit hb in
theorem cntF_length (i n : Nat) : (cntF base i n).length = i + 1 := by
  induction i generalizing n with
  | zero => rfl
  | succ i ih => rw [cntF, List.length_cons, ih]
omit hb in
theorem cntF_head (i n : Nat) : ∃ t, cntF base i n = (n - npF (rowsF base i) n) :: t := by
  cases i with
  | zero => exact ⟨[], rfl⟩
  | succ i => exact ⟨_, rfl⟩
theorem cntF_le (i : Nat) : ∀ n, n ≤ (rowsF base i).length → ∀ s ∈ cntF base i n, s ≤ base.length := by
  induction i with
  | zero =>
    intro n hn s hs
    simp only [cntF, List.mem_singleton] at hs
    subst hs
    exact (ns_singles hb 0 n hn).1
  | succ i ih =>
    intro n hn s hs
    rw [cntF] at hs
    rcases List.mem_cons.1 hs with rfl | hs
    · exact (ns_singles hb (i + 1) n hn).1
    · exact ih _ (np_two hb i n) s hs
theorem cntF_falls (i : Nat) : ∀ n, n ≤ (rowsF base i).length → (cntF base i n).Pairwise (fun a b => b ≤ a) := by
  induction i with
  | zero => intro n _; simp [cntF]
  | succ i ih =>
    intro n hn
    have h := ih _ (np_two hb i n)
    rw [cntF]
    refine List.pairwise_cons.2 ⟨fun b hb' => ?_, h⟩
    have hf := ns_falls hb i n _ hn rfl
    obtain ⟨t, ht⟩ := cntF_head (base := base) i (2 * npF (rowsF base (i + 1)) n)
    rw [ht] at h hb'
    rcases List.mem_cons.1 hb' with rfl | hb'
    · exact hf
    · exact Nat.le_trans ((List.pairwise_cons.1 h).1 b hb') hf
/-- The last row has all of them. -/
theorem cntF_all (i : Nat) (h2 : 2 ≤ base.length) : ∀ n, n ≤ (rowsF base i).length → 2 * base.length ≤ n + 2 → n - npF (rowsF base i) n = base.length := by
  induction i with
  | zero =>
    intro n hn h
    have h1 := (ns_singles hb 0 n hn).1
    rw [rowsF_zero_np hb] at h1 ⊢
    omega
  | succ i ih =>
    intro n hn h
    have h1 := (ns_singles hb (i + 1) n hn).1
    have hf := ns_falls hb i n _ hn rfl
    have h3 := npF_le (rowsF base (i + 1)) n
    rcases Nat.lt_or_ge (n - npF (rowsF base (i + 1)) n) base.length with hlt | hge
    · have := ih _ (np_two hb i n) (by omega)
      omega
    · omega
omit hb in
def krF : List Nat → Nat
  | [] => 0
  | s :: t => s * 2 ^ t.length + krF t
theorem krF_cnt (i : Nat) : ∀ n, krF (cntF base i n) = n * 2 ^ i := by
  induction i with
  | zero => intro n; rw [cntF, rowsF_zero_np hb]; simp [krF]
  | succ i ih =>
    intro n
    have h := npF_le (rowsF base (i + 1)) n
    rw [cntF, krF, ih, cntF_length, Nat.mul_comm 2, Nat.mul_assoc, Nat.mul_comm 2, ← Nat.pow_succ, ← Nat.add_mul, Nat.sub_add_cancel h]
end

/-! ### lengths by place -/
def addF (s : Nat) (ls : List Nat) : List Nat := (ls.take s).map (· + 1) ++ ls.drop s
def lensF (cs : List Nat) (ls : List Nat) : List Nat := cs.foldl (fun ls s => addF s ls) ls
theorem addF_length (s : Nat) (ls : List Nat) : (addF s ls).length = ls.length := by
  unfold addF
  rw [List.length_append, List.length_map, List.length_take, List.length_drop]; omega
theorem lensF_length (cs : List Nat) : ∀ ls, (lensF cs ls).length = ls.length := by
  induction cs with
  | nil => intro _; rfl
  | cons s t ih => intro ls; show (lensF t (addF s ls)).length = _; rw [ih, addF_length]
theorem addF_get (s : Nat) (ls : List Nat) (k : Nat) : (addF s ls).getD k 0 = if k < s ∧ k < ls.length then ls.getD k 0 + 1 else ls.getD k 0 := by
  unfold addF
  simp only [List.getD_eq_getElem?_getD]
  by_cases h : k < s ∧ k < ls.length
  · rw [if_pos h, List.getElem?_append_left (by simp; omega), List.getElem?_map, List.getElem?_take, if_pos h.1, List.getElem?_eq_getElem h.2]
    rfl
  · rw [if_neg h]
    rcases Nat.lt_or_ge k ls.length with h1 | h1
    · rw [List.getElem?_append_right (by simp; omega), List.length_map, List.length_take, List.getElem?_drop]
      congr 2; omega
    · rw [List.getElem?_eq_none (by simp; omega), List.getElem?_eq_none h1]
def kwF (ls : List Nat) : Int := sumF (fun l => (2 : Int) ^ (15 - l)) ls
theorem kw_addF {s t : Nat} {ls : List Nat} (hs : s ≤ ls.length) (h : ∀ k, k < s → ls.getD k 0 = t) (ht : t + 1 ≤ 15) : kwF (addF s ls) = kwF ls - s * 2 ^ (14 - t) := by
  have e : kwF ls = kwF (ls.take s) + kwF (ls.drop s) := by
    unfold kwF
    rw [← sumF_append, List.take_append_drop]
  have hall : ∀ l ∈ ls.take s, l = t := by
    intro l hl
    obtain ⟨k, hk, rfl⟩ := List.getElem_of_mem hl
    rw [List.length_take] at hk
    have := h k (by omega)
    rw [List.getD_eq_getElem?_getD, List.getElem?_eq_getElem (by omega)] at this
    rw [List.getElem_take]
    exact this
  have e1 : kwF (ls.take s) = s * 2 ^ (15 - t) := by
    unfold kwF
    rw [sumF_congr (g := fun _ => (2 : Int) ^ (15 - t)) (fun l hl => by rw [hall l hl]), sumF_const, List.length_take, Nat.min_eq_left hs]
  have e2 : kwF ((ls.take s).map (· + 1)) = s * 2 ^ (14 - t) := by
    unfold kwF
    rw [sumF_map, sumF_congr (g := fun _ => (2 : Int) ^ (14 - t)) (fun l hl => by rw [hall l hl, show 15 - (t + 1) = 14 - t by omega]), sumF_const, List.length_take, Nat.min_eq_left hs]
  have e3 : (2 : Int) ^ (15 - t) = 2 ^ (14 - t) + 2 ^ (14 - t) := by
    rw [show 15 - t = (14 - t) + 1 by omega, Int.pow_succ]; omega
  unfold addF
  rw [show kwF ((ls.take s).map (· + 1) ++ ls.drop s) = kwF ((ls.take s).map (· + 1)) + kwF (ls.drop s) from sumF_append _ _, e2, e, e1, e3, Int.mul_add]
  omega
theorem kw_lensF (cs : List Nat) : ∀ (t : Nat) (ls : List Nat), cs.Pairwise (fun a b => b ≤ a) → (∀ s ∈ cs, s ≤ ls.length) → (∀ s ∈ cs, ∀ k, k < s → ls.getD k 0 = t) → t + cs.length ≤ 15 →
    kwF (lensF cs ls) = kwF ls - krF cs * 2 ^ (15 - t - cs.length) := by
  induction cs with
  | nil => intro t ls _ _ _ _; simp [lensF, krF]
  | cons s cs ih =>
    intro t ls hp hle heq ht
    simp only [List.length_cons] at ht
    show kwF (lensF cs (addF s ls)) = _
    rw [ih (t + 1) (addF s ls) (List.pairwise_cons.1 hp).2 (fun x hx => by rw [addF_length]; exact hle x (by simp [hx])) (fun x hx k hk => ?_) (by omega), kw_addF (hle s (by simp)) (heq s (by simp)) (by omega), krF, List.length_cons]
    · have e : (2 : Int) ^ (14 - t) = 2 ^ cs.length * 2 ^ (15 - t - (cs.length + 1)) := by
        rw [← Int.pow_add]; congr 1; omega
      have e2 : 15 - (t + 1) - cs.length = 15 - t - (cs.length + 1) := by omega
      rw [e2, e]
      simp only [Int.natCast_add, Int.natCast_mul, Int.natCast_pow, Int.add_mul, Int.mul_assoc, Int.cast_ofNat_Int]
      omega
    · have h1 := (List.pairwise_cons.1 hp).1 x hx
      rw [addF_get, if_pos ⟨by omega, by have := hle x (by simp [hx]); omega⟩, heq s (by simp) k (by omega)]
theorem lensF_le (cs : List Nat) : ∀ ls k, (lensF cs ls).getD k 0 ≤ ls.getD k 0 + cs.length := by
  induction cs with
  | nil => intro ls k; exact Nat.le_refl _
  | cons s cs ih =>
    intro ls k
    have := ih (addF s ls) k
    show (lensF cs (addF s ls)).getD k 0 ≤ _
    rw [addF_get] at this
    rw [List.length_cons]
    split at this <;> omega
theorem lensF_ge (cs : List Nat) : ∀ ls k, ls.getD k 0 ≤ (lensF cs ls).getD k 0 := by
  induction cs with
  | nil => intro ls k; exact Nat.le_refl _
  | cons s cs ih =>
    intro ls k
    have := ih (addF s ls) k
    show _ ≤ (lensF cs (addF s ls)).getD k 0
    rw [addF_get] at this
    split at this <;> omega

theorem rep_zero (n k : Nat) : (List.replicate n 0).getD k 0 = 0 := by
  rw [List.getD_eq_getElem?_getD]
  rcases Nat.lt_or_ge k n with h | h
  · rw [List.getElem?_replicate, if_pos h]; rfl
  · rw [List.getElem?_replicate, if_neg (by omega)]; rfl
/-- Of sorted singles, two or more, not too many: lengths of which the weight is whole. -/
theorem whole {base : List Coin} (hb : Base base) (L : Nat) (h2 : 2 ≤ base.length) (hL : 1 ≤ L ∧ L ≤ 15) (hN : base.length ≤ 2 ^ L) :
    kwF (lensF (cntF base (L - 1) (2 * base.length - 2)) (List.replicate base.length 0)) = 2 ^ 15 ∧
    ∀ k, k < base.length → 1 ≤ (lensF (cntF base (L - 1) (2 * base.length - 2)) (List.replicate base.length 0)).getD k 0 ∧ (lensF (cntF base (L - 1) (2 * base.length - 2)) (List.replicate base.length 0)).getD k 0 ≤ L := by
  obtain ⟨i, rfl⟩ : ∃ i, L = i + 1 := ⟨L - 1, by omega⟩
  rw [Nat.add_sub_cancel]
  have hn : 2 * base.length - 2 ≤ (rowsF base i).length := by have := rowsF_enough (base := base) i hN; omega
  refine ⟨?_, fun k hk => ?_⟩
  · rw [kw_lensF _ 0 _ (cntF_falls hb i _ hn) (fun s hs => by rw [List.length_replicate]; exact cntF_le hb i _ hn s hs) (fun s hs k _ => rep_zero _ _) (by rw [cntF_length]; omega), krF_cnt hb, cntF_length]
    have e : kwF (List.replicate base.length 0) = base.length * 2 ^ 15 := by
      unfold kwF
      rw [sumF_congr (g := fun _ => (2 : Int) ^ 15) (fun l hl => by rw [(List.mem_replicate.1 hl).2]), sumF_const, List.length_replicate]
    rw [e]
    have e2 : (((2 * base.length - 2) * 2 ^ i : Nat) : Int) * 2 ^ (15 - 0 - (i + 1)) = ((2 * base.length - 2 : Nat) : Int) * 2 ^ 14 := by
      rw [Int.natCast_mul, Int.mul_assoc, Int.natCast_pow, show ((2 : Nat) : Int) = 2 by rfl, ← Int.pow_add]
      congr 2; omega
    rw [e2]
    have : ((2 * base.length - 2 : Nat) : Int) = 2 * base.length - 2 := by omega
    rw [this]
    omega
  · obtain ⟨t, ht⟩ := cntF_head (base := base) i (2 * base.length - 2)
    constructor
    · rw [ht, cntF_all hb i h2 _ hn (by omega)]
      have := lensF_ge t (addF base.length (List.replicate base.length 0)) k
      rw [addF_get, if_pos ⟨hk, by simpa using hk⟩] at this
      show 1 ≤ (lensF t (addF base.length (List.replicate base.length 0))).getD k 0
      omega
    · have := lensF_le (cntF base i (2 * base.length - 2)) (List.replicate base.length 0) k
      rw [cntF_length, rep_zero] at this
      omega
end Go.Proofs.Ytpbodonmiepilaa
/- huff: lengths of frequencies, plainly. No program in sight. -/
namespace Go.Proofs.Ytpbodonmiepilaa

/-- A symbol's frequency. -/
def frq (F : List Int) (x : Int) : Int := F.getD x.toNat 0
/-- The symbols in use, of the first k. -/
def usedN (F : List Int) : Nat → List Int
  | 0 => []
  | k + 1 => if 0 < F.getD k 0 then usedN F k ++ [(k : Int)] else usedN F k
def usedF (F : List Int) : List Int := usedN F F.length
def symsF (F : List Int) : List Int := sortF (frq F) (usedF F)
def coinOf (F : List Int) (s : Int) : Coin := ⟨frq F s, false⟩
def baseF (F : List Int) : List Coin := (symsF F).map (coinOf F)
def bump1 (o : List Int) (s : Int) : List Int := o.set s.toNat (o.getD s.toNat 0 + 1)
def bumpF (o : List Int) (l : List Int) : List Int := l.foldl bump1 o
def zerosF (n : Nat) : List Int := List.replicate n 0
def outF (syms : List Int) (cs : List Nat) (o : List Int) : List Int := cs.foldl (fun o c => bumpF o (syms.take c)) o
/-- The lengths. -/
def lengthsF (F : List Int) (L : Nat) : List Int :=
  if (symsF F).length < 2 then bumpF (zerosF F.length) (symsF F)
  else outF (symsF F) (cntF (baseF F) (L - 1) (2 * (symsF F).length - 2)) (zerosF F.length)

section
variable (F : List Int)
theorem usedN_mem (k : Nat) : ∀ x, x ∈ usedN F k ↔ ∃ s : Nat, x = s ∧ s < k ∧ 0 < F.getD s 0 := by
  induction k with
  | zero => intro x; simp [usedN]
  | succ k ih =>
    intro x
    rw [usedN]
    split
    · next h =>
      rw [List.mem_append, List.mem_singleton, ih]
      constructor
      · rintro (⟨s, rfl, h1, h2⟩ | rfl)
        · exact ⟨s, rfl, by omega, h2⟩
        · exact ⟨k, rfl, by omega, h⟩
      · rintro ⟨s, rfl, h1, h2⟩
        rcases Nat.lt_or_ge s k with h3 | h3
        · exact .inl ⟨s, rfl, h3, h2⟩
        · right; congr 1; omega
    · next h =>
      rw [ih]
      constructor
      · rintro ⟨s, rfl, h1, h2⟩
        exact ⟨s, rfl, by omega, h2⟩
      · rintro ⟨s, rfl, h1, h2⟩
        refine ⟨s, rfl, ?_, h2⟩
        rcases Nat.lt_or_ge s k with h3 | h3
        · exact h3
        · have : s = k := by omega
          subst this; exact absurd h2 h
theorem usedN_nodup (k : Nat) : (usedN F k).Nodup := by
  induction k with
  | zero => simp [usedN]
  | succ k ih =>
    rw [usedN]
    split
    · rw [List.nodup_append]
      refine ⟨ih, by simp, fun a ha b hb' => ?_⟩
      rw [usedN_mem] at ha
      obtain ⟨s, rfl, h1, _⟩ := ha
      rw [List.mem_singleton] at hb'
      subst hb'
      omega
    · exact ih
theorem usedN_length (k : Nat) : (usedN F k).length ≤ k := by
  induction k with
  | zero => simp [usedN]
  | succ k ih =>
    rw [usedN]
    split
    · rw [List.length_append]; simp; omega
    · omega
theorem syms_perm : (usedF F).Perm (symsF F) := (sortF_law _).2.perm
theorem syms_srt : Srt (frq F) (symsF F) := (sortF_law _).1
theorem syms_mem (x : Int) : x ∈ symsF F ↔ ∃ s : Nat, x = s ∧ s < F.length ∧ 0 < F.getD s 0 := by
  rw [← (syms_perm F).mem_iff]
  exact usedN_mem F _ x
theorem syms_nodup : (symsF F).Nodup := (syms_perm F).nodup_iff.1 (usedN_nodup F _)
theorem syms_length : (symsF F).length = (usedF F).length := (syms_perm F).length_eq.symm
theorem syms_le : (symsF F).length ≤ F.length := by rw [syms_length]; exact usedN_length F _
theorem base_length : (baseF F).length = (symsF F).length := by unfold baseF; simp
theorem base_law : Base (baseF F) := by
  refine ⟨?_, ?_, ?_⟩
  · intro c hc
    obtain ⟨s, _, rfl⟩ := List.mem_map.1 hc
    rfl
  · exact List.pairwise_map.2 (syms_srt F)
  · intro c hc
    obtain ⟨s, hs, rfl⟩ := List.mem_map.1 hc
    obtain ⟨n, rfl, _, h⟩ := (syms_mem F s).1 hs
    show 1 ≤ F.getD (Int.toNat n) 0
    rw [Int.toNat_natCast]
    omega
end

/-! ### bumps -/
theorem bump1_length (o : List Int) (s : Int) : (bump1 o s).length = o.length := by simp [bump1]
theorem bumpF_length (l : List Int) : ∀ o, (bumpF o l).length = o.length := by
  induction l with
  | nil => intro _; rfl
  | cons s t ih => intro o; show (bumpF (bump1 o s) t).length = _; rw [ih, bump1_length]
theorem bump1_get (o : List Int) (s j : Nat) (hs : s < o.length) : (bump1 o s).getD j 0 = o.getD j 0 + if j = s then 1 else 0 := by
  unfold bump1
  simp only [List.getD_eq_getElem?_getD, Int.toNat_natCast]
  by_cases h : j = s
  · subst h
    rw [List.getElem?_set_self hs, if_pos rfl]
    rfl
  · rw [List.getElem?_set_ne (fun e => h e.symm), if_neg h, Int.add_zero]
theorem bumpF_get (l : List Int) : ∀ (o : List Int) (j : Nat), (∀ x ∈ l, ∃ s : Nat, x = s ∧ s < o.length) → (bumpF o l).getD j 0 = o.getD j 0 + (l.countP fun x => decide (x = (j : Int)) : Nat) := by
  induction l with
  | nil => intro o j _; simp [bumpF]
  | cons x t ih =>
    intro o j h
    obtain ⟨s, rfl, hs⟩ := h x (by simp)
    show (bumpF (bump1 o s) t).getD j 0 = _
    rw [ih _ j (fun x hx => by rw [bump1_length]; exact h x (by simp [hx])), bump1_get o s j hs, List.countP_cons]
    by_cases hj : j = s
    · subst hj; simp; omega
    · have : ¬ ((s : Int) = j) := by omega
      simp [hj, this]
theorem count_nodup {l : List Int} (h : l.Nodup) (x : Int) : (l.countP fun y => decide (y = x)) = if x ∈ l then 1 else 0 := by
  induction l with
  | nil => simp
  | cons a t ih =>
    rw [List.nodup_cons] at h
    rw [List.countP_cons, ih h.2]
    by_cases ha : a = x
    · subst ha
      simp [h.1]
    · have : ¬ x = a := fun e => ha e.symm
      simp [ha, this]

/-- The lengths, and the lengths by place. -/
structure OutRel (F o : List Int) (ls : List Nat) : Prop where
  len : o.length = F.length
  lsl : ls.length = (symsF F).length
  get : ∀ k (h : k < (symsF F).length), o.getD ((symsF F)[k]).toNat 0 = ls.getD k 0
  zero : ∀ j : Nat, (j : Int) ∉ symsF F → o.getD j 0 = 0
theorem out_start (F : List Int) : OutRel F (zerosF F.length) (List.replicate (symsF F).length 0) := by
  have hz : ∀ j, (zerosF F.length).getD j 0 = 0 := by
    intro j
    unfold zerosF
    rw [List.getD_eq_getElem?_getD, List.getElem?_replicate]
    split <;> rfl
  exact ⟨by simp [zerosF], by simp, fun k _ => by rw [hz, rep_zero]; rfl, fun j _ => hz j⟩
theorem nodup_idx {l : List Int} (h : l.Nodup) {i j : Nat} (hi : i < l.length) (hj : j < l.length) (e : l[i] = l[j]) : i = j := by
  rcases Nat.lt_trichotomy i j with h1 | h1 | h1
  · exact absurd e (List.pairwise_iff_getElem.1 h i j hi hj h1)
  · exact h1
  · exact absurd e.symm (List.pairwise_iff_getElem.1 h j i hj hi h1)
theorem out_bump {F o : List Int} {ls : List Nat} (h : OutRel F o ls) (c : Nat) : OutRel F (bumpF o ((symsF F).take c)) (addF c ls) := by
  have hin : ∀ x ∈ (symsF F).take c, ∃ s : Nat, x = s ∧ s < o.length := fun x hx => by
    obtain ⟨s, rfl, h1, _⟩ := (syms_mem F x).1 (List.mem_of_mem_take hx)
    exact ⟨s, rfl, by rw [h.len]; exact h1⟩
  have hnd : ((symsF F).take c).Nodup := (syms_nodup F).sublist (List.take_sublist _ _)
  refine ⟨by rw [bumpF_length, h.len], by rw [addF_length, h.lsl], fun k hk => ?_, fun j hj => ?_⟩
  · rw [bumpF_get _ _ _ hin, h.get k hk, addF_get, count_nodup hnd]
    have hpos : (((symsF F)[k]).toNat : Int) = (symsF F)[k] := by
      obtain ⟨s, e, _⟩ := (syms_mem F ((symsF F)[k])).1 (List.getElem_mem _)
      rw [e]; rfl
    rw [hpos]
    by_cases hc : k < c
    · have h1 : k < c ∧ k < ls.length := ⟨hc, by rw [h.lsl]; exact hk⟩
      have h2 : (symsF F)[k] ∈ (symsF F).take c := List.mem_take_iff_getElem.2 ⟨k, by omega, rfl⟩
      rw [if_pos h1, if_pos h2]
      simp
    · have h1 : ¬ (k < c ∧ k < ls.length) := fun hh => hc hh.1
      have h2 : ¬ (symsF F)[k] ∈ (symsF F).take c := by
        intro hm
        obtain ⟨j, hj, e⟩ := List.mem_take_iff_getElem.1 hm
        have := nodup_idx (syms_nodup F) (by omega) hk e
        omega
      rw [if_neg h1, if_neg h2]
      simp
  · rw [bumpF_get _ _ _ hin, h.zero j hj, count_nodup hnd, if_neg (fun hm => hj (List.mem_of_mem_take hm))]
    simp
theorem out_fold {F : List Int} (cs : List Nat) : ∀ {o : List Int} {ls : List Nat}, OutRel F o ls → OutRel F (outF (symsF F) cs o) (lensF cs ls) := by
  induction cs with
  | nil => intro o ls h; exact h
  | cons c cs ih => intro o ls h; exact ih (out_bump h c)

/-! ### weights and costs, over symbols -/
def wtF (x : Int) : Int := if 0 < x then 2 ^ (15 - x.toNat) else 0
theorem sum_range (l : List Int) (f : Int → Int) : sumF f l = sumF (fun j : Nat => f (l.getD j 0)) (List.range l.length) := by
  have e : l = (List.range l.length).map (fun j => l.getD j 0) := by
    refine List.ext_getElem (by simp) fun i h1 h2 => ?_
    simp [List.getD_eq_getElem?_getD, h1]
  conv => lhs; rw [e]
  rw [sumF_map]
theorem used_range (F : List Int) (k : Nat) : usedN F k = ((List.range k).filter fun s => decide (0 < F.getD s 0)).map Int.ofNat := by
  induction k with
  | zero => rfl
  | succ k ih =>
    rw [usedN, List.range_succ, List.filter_append, List.map_append, ← ih]
    split
    · next h => simp only [List.filter_cons, List.filter_nil, h, decide_true, if_true]; rfl
    · next h => simp only [List.filter_cons, List.filter_nil, h, decide_false]; simp
/-- A sum over all symbols is one over those in use, if nothing else counts. -/
theorem sum_syms (F : List Int) (f : Nat → Int) (h : ∀ j, j < F.length → ¬ 0 < F.getD j 0 → f j = 0) : sumF f (List.range F.length) = sumF (fun x : Int => f x.toNat) (symsF F) := by
  rw [← sumF_perm (syms_perm F)]
  unfold usedF
  rw [used_range, sumF_map, sumF_filter (fun s => decide (0 < F.getD s 0)) (List.range F.length)]
  have e : sumF f ((List.range F.length).filter fun x => !decide (0 < F.getD x 0)) = 0 := by
    rw [sumF_congr (g := fun _ => 0) (fun j hj => by
      have := List.mem_filter.1 hj
      exact h j (List.mem_range.1 this.1) (by simpa using this.2)), sumF_const]
    simp
  rw [e, Int.add_zero]
  exact sumF_congr fun x _ => by simp
def costF : List Int → List Int → Int
  | a :: F, b :: l => a * b + costF F l
  | _, _ => 0
theorem cost_range (F l : List Int) (h : l.length = F.length) : costF F l = sumF (fun j : Nat => F.getD j 0 * l.getD j 0) (List.range F.length) := by
  induction F generalizing l with
  | nil => cases l <;> rfl
  | cons a F ih =>
    cases l with
    | nil => simp at h
    | cons b l =>
      rw [costF, ih l (by simpa using h), List.length_cons, List.range_succ_eq_map, sumF_cons, sumF_map]
      rfl
theorem getD_self {ls : List Nat} : (List.range ls.length).map (fun k => ls.getD k 0) = ls := by
  refine List.ext_getElem (by simp) fun i h1 h2 => ?_
  simp [List.getD_eq_getElem?_getD, h2]
theorem sum_places {α : Type} (f : α → Int) (l : List α) (g : Nat → Int) (h : ∀ k (hk : k < l.length), f l[k] = g k) : sumF f l = sumF g (List.range l.length) := by
  induction l generalizing g with
  | nil => rfl
  | cons a t ih =>
    rw [List.length_cons, List.range_succ_eq_map, sumF_cons, sumF_cons, sumF_map, ih (fun k => g (k + 1)) (fun k hk => h (k + 1) (by simpa using hk))]
    have := h 0 (by simp)
    simp only [List.getElem_cons_zero] at this
    rw [this]

section
variable {F : List Int} {L : Nat} (hF : ∀ f ∈ F, 0 ≤ f) (hL : 1 ≤ L ∧ L ≤ 15) (hU : (symsF F).length ≤ 2 ^ L)
theorem getD_nonneg (hF : ∀ f ∈ F, 0 ≤ f) (j : Nat) : 0 ≤ F.getD j 0 := by
  rw [List.getD_eq_getElem?_getD]
  rcases Nat.lt_or_ge j F.length with h | h
  · rw [List.getElem?_eq_getElem h]; exact hF _ (List.getElem_mem _)
  · rw [List.getElem?_eq_none h]; exact Int.le_refl _
/-- By which lengths by place the lengths are. -/
theorem lengthsF_rel (F : List Int) (L : Nat) : OutRel F (lengthsF F L) (if (symsF F).length < 2 then addF (symsF F).length (List.replicate (symsF F).length 0) else lensF (cntF (baseF F) (L - 1) (2 * (baseF F).length - 2)) (List.replicate (baseF F).length 0)) := by
  unfold lengthsF
  split
  · have := out_bump (out_start F) (symsF F).length
    rwa [List.take_length] at this
  · rw [base_length]
    exact out_fold _ (out_start F)
theorem lengthsF_length (F : List Int) (L : Nat) : (lengthsF F L).length = F.length := (lengthsF_rel F L).len
theorem out_weight {o : List Int} {ls : List Nat} (h : OutRel F o ls) (h1 : ∀ k, k < ls.length → 1 ≤ ls.getD k 0) : sumF wtF o = kwF ls := by
  rw [sum_range, h.len, sum_syms F (fun j => wtF (o.getD j 0)) (fun j _ hj => by
    show wtF (o.getD j 0) = 0
    rw [h.zero j (fun hm => by
      obtain ⟨s, e, _, h2⟩ := (syms_mem F j).1 hm
      have : j = s := by omega
      subst this; exact hj h2)]; rfl)]
  unfold kwF
  rw [sum_places (fun x : Int => wtF (o.getD x.toNat 0)) (symsF F) (fun k => (2 : Int) ^ (15 - ls.getD k 0)) (fun k hk => ?_), ← h.lsl]
  · conv => rhs; rw [← getD_self (ls := ls), sumF_map]
  · rw [h.get k hk]
    have := h1 k (by rw [h.lsl]; exact hk)
    unfold wtF
    rw [if_pos (by omega)]
    simp
include hL hU
theorem places_ok {ls : List Nat} (hls : ls = if (symsF F).length < 2 then addF (symsF F).length (List.replicate (symsF F).length 0) else lensF (cntF (baseF F) (L - 1) (2 * (baseF F).length - 2)) (List.replicate (baseF F).length 0)) :
    ∀ k, k < (symsF F).length → 1 ≤ ls.getD k 0 ∧ ls.getD k 0 ≤ L := by
  intro k hk
  subst hls
  split
  · rw [addF_get, if_pos ⟨hk, by simpa using hk⟩, rep_zero]
    omega
  · next h =>
    have hw := whole (base_law F) L (by rw [base_length]; omega) hL (by rw [base_length]; exact hU)
    rw [base_length] at hw ⊢
    exact hw.2 k hk
/-- None above the limit; none but of what has frequency none. -/
theorem lengthsF_range (hF : ∀ f ∈ F, 0 ≤ f) (j : Nat) (hj : j < F.length) : 0 ≤ (lengthsF F L).getD j 0 ∧ (lengthsF F L).getD j 0 ≤ L ∧ ((lengthsF F L).getD j 0 = 0 ↔ F.getD j 0 = 0) := by
  obtain ⟨ls, hls⟩ : ∃ ls, ls = if (symsF F).length < 2 then addF (symsF F).length (List.replicate (symsF F).length 0) else lensF (cntF (baseF F) (L - 1) (2 * (baseF F).length - 2)) (List.replicate (baseF F).length 0) := ⟨_, rfl⟩
  have hr := lengthsF_rel F L
  rw [← hls] at hr
  have hp := places_ok (F := F) hL hU hls
  have h0 := getD_nonneg hF j
  by_cases hm : (j : Int) ∈ symsF F
  · obtain ⟨k, hk, e⟩ := List.getElem_of_mem hm
    have hg := hr.get k hk
    rw [e] at hg
    simp only [Int.toNat_natCast] at hg
    have h1 := hp k hk
    obtain ⟨s, e2, _, h2⟩ := (syms_mem F j).1 hm
    have : j = s := by omega
    subst this
    rw [hg]
    omega
  · rw [hr.zero j hm]
    have : ¬ 0 < F.getD j 0 := fun h => hm ((syms_mem F j).2 ⟨j, rfl, hj, h⟩)
    omega
/-- The weight. -/
theorem lengthsF_weight : sumF wtF (lengthsF F L) = if (symsF F).length < 2 then ((symsF F).length : Int) * 2 ^ 14 else 2 ^ 15 := by
  obtain ⟨ls, hls⟩ : ∃ ls, ls = if (symsF F).length < 2 then addF (symsF F).length (List.replicate (symsF F).length 0) else lensF (cntF (baseF F) (L - 1) (2 * (baseF F).length - 2)) (List.replicate (baseF F).length 0) := ⟨_, rfl⟩
  have hr := lengthsF_rel F L
  rw [← hls] at hr
  have hp := places_ok (F := F) hL hU hls
  rw [out_weight hr (fun k hk => (hp k (by rw [← hr.lsl]; exact hk)).1), hls]
  split
  · next h =>
    rw [kw_addF (t := 0) (by simp) (fun k _ => rep_zero _ _) (by omega)]
    have e : kwF (List.replicate (symsF F).length 0) = (symsF F).length * 2 ^ 15 := by
      unfold kwF
      rw [sumF_congr (g := fun _ => (2 : Int) ^ 15) (fun l hl => by rw [(List.mem_replicate.1 hl).2]), sumF_const, List.length_replicate]
    rw [e]
    omega
  · next h =>
    exact (whole (base_law F) L (by rw [base_length]; omega) hL (by rw [base_length]; exact hU)).1
end

/-! ### costs -/
theorem cost_bump1 (F : List Int) : ∀ (o : List Int) (s : Nat), s < o.length → o.length = F.length → costF F (bump1 o s) = costF F o + frq F s := by
  induction F with
  | nil => intro o s h1 h2; simp at h2; subst h2; simp at h1
  | cons a F ih =>
    intro o s h1 h2
    cases o with
    | nil => simp at h1
    | cons b o =>
      cases s with
      | zero =>
        simp [bump1, costF, frq, Int.mul_add]; omega
      | succ s =>
        have := ih o s (by simpa using h1) (by simpa using h2)
        simp only [bump1, Int.toNat_natCast, List.set_cons_succ, List.getD_cons_succ, costF, frq] at this ⊢
        omega
theorem cost_bump (F : List Int) (l : List Int) : ∀ o, o.length = F.length → (∀ x ∈ l, ∃ s : Nat, x = s ∧ s < F.length) → costF F (bumpF o l) = costF F o + sumF (frq F) l := by
  induction l with
  | nil => intro o _ _; simp [bumpF, sumF]
  | cons x t ih =>
    intro o ho h
    obtain ⟨s, rfl, hs⟩ := h x (by simp)
    show costF F (bumpF (bump1 o s) t) = _
    rw [ih _ (by rw [bump1_length, ho]) (fun x hx => h x (by simp [hx])), cost_bump1 F o s (by omega) ho, sumF_cons]
    omega
theorem cost_out (F : List Int) (cs : List Nat) : ∀ o, o.length = F.length → costF F (outF (symsF F) cs o) = costF F o + sumF (fun s => sumF Coin.w ((baseF F).take s)) cs := by
  induction cs with
  | nil => intro o _; simp [outF, sumF]
  | cons c cs ih =>
    intro o ho
    show costF F (outF (symsF F) cs (bumpF o ((symsF F).take c))) = _
    rw [ih _ (by rw [bumpF_length, ho]), cost_bump F _ o ho (fun x hx => by
      obtain ⟨s, rfl, h1, _⟩ := (syms_mem F x).1 (List.mem_of_mem_take hx)
      exact ⟨s, rfl, h1⟩), sumF_cons]
    have e : sumF Coin.w ((baseF F).take c) = sumF (frq F) ((symsF F).take c) := by
      unfold baseF
      rw [← List.map_take, sumF_map]
      rfl
    rw [e]
    omega
theorem cost_zero (F : List Int) : ∀ n, costF F (zerosF n) = 0 := by
  induction F with
  | nil => intro n; cases n <;> rfl
  | cons a F ih =>
    intro n
    cases n with
    | zero => rfl
    | succ n =>
      show a * 0 + costF F (zerosF n) = 0
      rw [ih]; omega
theorem sum_count {α : Type} (f : α → Int) (g : α → Nat) (C : Nat → List α) (l : List α) (hC : ∀ j, C j = l.filter fun x => decide (j < g x)) : ∀ i, (∀ x ∈ l, g x ≤ i) → sumF (fun j => sumF f (C j)) (List.range i) = sumF (fun x => f x * (g x : Int)) l := by
  have key : ∀ i, sumF (fun j => sumF f (C j)) (List.range i) = sumF (fun x => f x * ((min (g x) i : Nat) : Int)) l := by
    intro i
    induction i with
    | zero =>
      rw [sumF_congr (l := l) (g := fun _ => 0) (fun x _ => by simp), sumF_const]; simp [sumF]
    | succ i ih =>
      rw [List.range_succ, sumF_append, ih, sumF_cons, sumF_nil, hC]
      clear ih hC
      induction l with
      | nil => rfl
      | cons x t ih =>
        simp only [sumF_cons, List.filter_cons] at ih ⊢
        by_cases h : i < g x
        · have e1 : min (g x) i = i := by omega
          have e2 : min (g x) (i + 1) = i + 1 := by omega
          rw [e1, e2]
          simp only [h, decide_true, if_true, sumF_cons, Int.natCast_add, Int.mul_add]
          omega
        · have e1 : min (g x) i = g x := by omega
          have e2 : min (g x) (i + 1) = g x := by omega
          rw [e1, e2]
          simp only [h, decide_false]
          simp only [Bool.false_eq_true, if_false]
          omega
  intro i hi
  rw [key i]
  exact sumF_congr fun x hx => by rw [Nat.min_eq_left (hi x hx)]
theorem worth_range (C : Nat → List Coin) : ∀ i, ((worthF C i : Nat) : Int) = sumF (fun j => ((C j).length : Int) * 2 ^ j) (List.range (i + 1)) := by
  intro i
  induction i with
  | zero => simp [worthF, sumF, List.range_succ]
  | succ i ih => rw [worthF, List.range_succ, sumF_append, ← ih]; simp [sumF]
theorem weigh_range (C : Nat → List Coin) : ∀ i, weighF C i = sumF (fun j => sumF Coin.w (C j)) (List.range (i + 1)) := by
  intro i
  induction i with
  | zero => simp [weighF, sumF, List.range_succ]
  | succ i ih => rw [weighF, List.range_succ, sumF_append, ← ih]; simp [sumF]
theorem sum_swap {α β : Type} (f : α → β → Int) (l : List α) (m : List β) : sumF (fun x => sumF (f x) m) l = sumF (fun y => sumF (fun x => f x y) l) m := by
  induction l with
  | nil =>
    have : sumF (fun y => sumF (fun x => f x y) []) m = 0 := by
      exact (sumF_congr (l := m) (g := fun _ => 0) (fun _ _ => rfl)).trans (by rw [sumF_const]; simp)
    rw [this]; rfl
  | cons x t ih =>
    rw [sumF_cons, ih, ← sumF_add]
    exact sumF_congr fun y _ => by rw [sumF_cons]
theorem length_filter_sum {α : Type} (p : α → Bool) (l : List α) (c : Int) : ((l.filter p).length : Int) * c = sumF (fun x => if p x then c else 0) l := by
  induction l with
  | nil => simp [sumF]
  | cons x t ih =>
    rw [sumF_cons, List.filter_cons, ← ih]
    cases p x <;> simp [Int.add_mul] <;> omega
theorem sum_filter_if {α : Type} (p : α → Bool) (f : α → Int) (l : List α) : sumF f (l.filter p) = sumF (fun x => if p x then f x else 0) l := by
  induction l with
  | nil => rfl
  | cons x t ih =>
    rw [sumF_cons, List.filter_cons, ← ih]
    cases p x <;> simp [sumF_cons]
/-- 2^j, for all j from L - l on, below L. -/
theorem pow_tail (L : Nat) : ∀ i l, i ≤ L → sumF (fun j : Nat => if L ≤ j + l then (2 : Int) ^ j else 0) (List.range i) = if L ≤ i + l then 2 ^ i - 2 ^ (L - l) else 0 := by
  intro i
  induction i with
  | zero =>
    intro l _
    simp only [List.range_zero, sumF_nil]
    split
    · next h => rw [show L - l = 0 by omega]; simp
    · rfl
  | succ i ih =>
    intro l h
    rw [List.range_succ, sumF_append, ih l (by omega), sumF_cons, sumF_nil]
    by_cases h1 : L ≤ i + l
    · rw [if_pos h1, if_pos h1, if_pos (by omega), Int.pow_succ]; omega
    · rw [if_neg h1, if_neg h1]
      split
      · next h2 => rw [show L - l = i + 1 by omega]; omega
      · omega
theorem one_tail (L : Nat) (c : Int) : ∀ i l, i ≤ L → l ≤ L → sumF (fun j : Nat => if L ≤ j + l then c else 0) (List.range i) = ((i + l - L : Nat) : Int) * c := by
  intro i
  induction i with
  | zero => intro l _ h; rw [show 0 + l - L = 0 by omega]; simp [sumF]
  | succ i ih =>
    intro l h hl
    rw [List.range_succ, sumF_append, ih l (by omega) hl, sumF_cons, sumF_nil]
    by_cases h1 : L ≤ i + l
    · rw [if_pos h1, show i + 1 + l - L = (i + l - L) + 1 by omega, Int.natCast_add, Int.add_mul]; simp
    · rw [if_neg h1, show i + 1 + l - L = 0 by omega, show i + l - L = 0 by omega]; simp

/-- Nothing costs less. -/
theorem lengthsF_least {F : List Int} {L : Nat} (hF : ∀ f ∈ F, 0 ≤ f) (hL : 1 ≤ L ∧ L ≤ 15) (hU : (symsF F).length ≤ 2 ^ L) {o : List Int} (ho : o.length = F.length)
    (h0 : ∀ j, j < F.length → 0 ≤ o.getD j 0 ∧ o.getD j 0 ≤ L) (h1 : ∀ j, j < F.length → 0 < F.getD j 0 → o.getD j 0 ≠ 0) (hw : sumF wtF o ≤ 2 ^ 15) :
    costF F (lengthsF F L) ≤ costF F o := by
  have hmem : ∀ x ∈ symsF F, 1 ≤ o.getD x.toNat 0 ∧ o.getD x.toNat 0 ≤ L := fun x hx => by
    obtain ⟨s, rfl, hs, hp⟩ := (syms_mem F x).1 hx
    have := h0 s hs; have := h1 s hs hp
    simp only [Int.toNat_natCast]
    omega
  have hcost : costF F o = sumF (fun x : Int => frq F x * o.getD x.toNat 0) (symsF F) := by
    rw [cost_range F o ho, sum_syms F (fun j => F.getD j 0 * o.getD j 0) (fun j _ hj => by
      have := getD_nonneg hF j
      have : F.getD j 0 = 0 := by omega
      show F.getD j 0 * _ = 0
      rw [this]; simp)]
    rfl
  by_cases hN : (symsF F).length < 2
  · have e : costF F (lengthsF F L) = sumF (frq F) (symsF F) := by
      unfold lengthsF
      rw [if_pos hN, cost_bump F _ _ (by simp [zerosF]) (fun x hx => by
        obtain ⟨s, rfl, h1, _⟩ := (syms_mem F x).1 hx
        exact ⟨s, rfl, h1⟩), cost_zero]
      omega
    rw [e, hcost]
    refine sumF_mono fun x hx => ?_
    have h2 := (hmem x hx).1
    obtain ⟨s, rfl, hs, hp⟩ := (syms_mem F x).1 hx
    have h3 : 0 ≤ frq F s := by have : frq F s = F.getD s 0 := rfl
                                omega
    have := Int.mul_le_mul_of_nonneg_left h2 h3
    omega
  · obtain ⟨i, rfl⟩ : ∃ i, L = i + 1 := ⟨L - 1, by omega⟩
    have hn : 2 * (baseF F).length - 2 ≤ (rowsF (baseF F) i).length := by
      have := rowsF_enough (base := baseF F) i (by rw [base_length]; exact hU)
      omega
    have e : costF F (lengthsF F (i + 1)) = sumF Coin.w ((rowsF (baseF F) i).take (2 * (baseF F).length - 2)) := by
      unfold lengthsF
      rw [if_neg hN, cost_out F _ _ (by simp [zerosF]), cost_zero, Nat.add_sub_cancel, ← base_length, taken_sum (base_law F) i _ hn]
      omega
    let C : Nat → List Coin := fun j => ((symsF F).filter fun x => decide (i + 1 ≤ j + (o.getD x.toNat 0).toNat)).map (coinOf F)
    have hC : ∀ j, j ≤ i → (C j).Sublist (baseF F) := fun j _ => List.filter_sublist.map _
    have hweigh : weighF C i = sumF (fun x : Int => frq F x * o.getD x.toNat 0) (symsF F) := by
      rw [weigh_range]
      have e1 : ∀ j ∈ List.range (i + 1), sumF Coin.w (C j) = sumF (fun x : Int => if i + 1 ≤ j + (o.getD x.toNat 0).toNat then frq F x else 0) (symsF F) := fun j _ => by
        simp only [C]
        rw [sumF_map, sum_filter_if]
        exact sumF_congr fun x _ => by simp [coinOf]
      rw [sumF_congr e1, sum_swap]
      refine sumF_congr fun x hx => ?_
      have h2 := hmem x hx
      rw [one_tail (i + 1) (frq F x) (i + 1) _ (Nat.le_refl _) (by omega), Int.mul_comm]
      congr 1
      omega
    have hworth : (2 * (baseF F).length - 2) * 2 ^ i ≤ worthF C i := by
      have hI : (((2 * (baseF F).length - 2) * 2 ^ i : Nat) : Int) ≤ (worthF C i : Nat) := by
        rw [worth_range]
        have e1 : ∀ j ∈ List.range (i + 1), ((C j).length : Int) * 2 ^ j = sumF (fun x : Int => if i + 1 ≤ j + (o.getD x.toNat 0).toNat then (2 : Int) ^ j else 0) (symsF F) := fun j _ => by
          simp only [C]
          rw [List.length_map, length_filter_sum]
          exact sumF_congr fun x _ => by simp
        rw [sumF_congr e1, sum_swap]
        have e2 : ∀ x ∈ symsF F, sumF (fun j : Nat => if i + 1 ≤ j + (o.getD x.toNat 0).toNat then (2 : Int) ^ j else 0) (List.range (i + 1)) = 2 ^ (i + 1) + -(2 ^ (i + 1 - (o.getD x.toNat 0).toNat)) := fun x hx => by
          rw [pow_tail (i + 1) (i + 1) _ (Nat.le_refl _), if_pos (by omega)]
          omega
        rw [sumF_congr e2, sumF_add, sumF_const]
        have e3 : sumF (fun x : Int => wtF (o.getD x.toNat 0)) (symsF F) ≤ 2 ^ 15 := by
          refine Int.le_trans ?_ hw
          rw [sum_range o wtF, ho, ← sumF_perm (syms_perm F)]
          unfold usedF
          rw [used_range, sumF_map, sumF_filter (fun s => decide (0 < F.getD s 0)) (List.range F.length)]
          have h3 : 0 ≤ sumF (fun j : Nat => wtF (o.getD j 0)) ((List.range F.length).filter fun x => !decide (0 < F.getD x 0)) := sumF_nonneg fun x _ => by
            unfold wtF
            split
            · exact Int.le_of_lt (Int.pow_pos (by omega))
            · omega
          have h4 : sumF (fun x : Nat => wtF (o.getD (Int.ofNat x).toNat 0)) ((List.range F.length).filter fun s => decide (0 < F.getD s 0)) = sumF (fun j : Nat => wtF (o.getD j 0)) ((List.range F.length).filter fun s => decide (0 < F.getD s 0)) := sumF_congr fun x _ => by simp
          rw [h4]
          omega
        have e4 : sumF (fun x : Int => wtF (o.getD x.toNat 0)) (symsF F) = sumF (fun x : Int => (2 : Int) ^ (i + 1 - (o.getD x.toNat 0).toNat)) (symsF F) * 2 ^ (15 - (i + 1)) := by
          have hh : ∀ l : List Int, (∀ x ∈ l, 1 ≤ o.getD x.toNat 0 ∧ o.getD x.toNat 0 ≤ (i + 1 : Nat)) → sumF (fun x : Int => wtF (o.getD x.toNat 0)) l = sumF (fun x : Int => (2 : Int) ^ (i + 1 - (o.getD x.toNat 0).toNat)) l * 2 ^ (15 - (i + 1)) := by
            intro l
            induction l with
            | nil => intro _; simp [sumF]
            | cons x t ih =>
              intro h
              rw [sumF_cons, sumF_cons, ih fun y hy => h y (by simp [hy]), Int.add_mul]
              congr 1
              have := h x (by simp)
              unfold wtF
              rw [if_pos (by omega), ← Int.pow_add]
              congr 1
              omega
          exact hh _ hmem
        have e5 : sumF (fun x : Int => -((2 : Int) ^ (i + 1 - (o.getD x.toNat 0).toNat))) (symsF F) = - sumF (fun x : Int => (2 : Int) ^ (i + 1 - (o.getD x.toNat 0).toNat)) (symsF F) := by
          have := sumF_add (f := fun x : Int => (2 : Int) ^ (i + 1 - (o.getD x.toNat 0).toNat)) (g := fun x : Int => -((2 : Int) ^ (i + 1 - (o.getD x.toNat 0).toNat))) (symsF F)
          rw [sumF_congr (l := symsF F) (f := fun x => (2 : Int) ^ (i + 1 - (o.getD x.toNat 0).toNat) + -((2 : Int) ^ (i + 1 - (o.getD x.toNat 0).toNat))) (g := fun _ => 0) (fun x _ => Int.add_right_neg _), sumF_const, Int.mul_zero] at this
          omega
        rw [e5]
        have e6 : sumF (fun x : Int => (2 : Int) ^ (i + 1 - (o.getD x.toNat 0).toNat)) (symsF F) ≤ 2 ^ (i + 1) := by
          rw [e4] at e3
          have e7 : (2 : Int) ^ 15 = 2 ^ (i + 1) * 2 ^ (15 - (i + 1)) := by rw [← Int.pow_add]; congr 1; omega
          rw [e7] at e3
          exact Int.le_of_mul_le_mul_right e3 (Int.pow_pos (by omega))
        rw [base_length]
        have e8 : (((2 * (symsF F).length - 2) * 2 ^ i : Nat) : Int) = ((symsF F).length : Int) * 2 ^ (i + 1) - 2 ^ (i + 1) := by
          have : ((2 * (symsF F).length - 2 : Nat) : Int) = 2 * ((symsF F).length : Int) - 2 := by omega
          rw [Int.natCast_mul, this, Int.natCast_pow, Int.pow_succ, Int.sub_mul, Int.mul_comm (2 : Int) (symsF F).length, Int.mul_assoc, Int.mul_comm (2 ^ i : Int) 2]
          rfl
        rw [e8]
        omega
      exact_mod_cast hI
    have := (least_choice (base_law F) C i hC _ hworth).2
    rw [e, hcost, ← hweigh]
    exact this
end Go.Proofs.Ytpbodonmiepilaa
/- huff: plainly, what the walks tell (1). No program in sight. -/
namespace Go.Proofs.Ytpbodonmiepilaa
open Go.RowKit

theorem getD_get {F : List Int} {i : Nat} (h : i < F.length) : F[i]? = some (F.getD i 0) := by
  rw [List.getD_eq_getElem?_getD, List.getElem?_eq_getElem h]; rfl
theorem rd_len {w : World} {v : Value} {n : Nat} {F : List Int} (hr : Rd w 1 v n (nums F)) : F.length = n := by have := hr.len; rw [nums_length] at this; omega
theorem wtF_bounds {x : Int} (h : 0 ≤ x ∧ x ≤ 15) : 0 ≤ wtF x ∧ wtF x ≤ 16384 := by
  unfold wtF
  split
  · have h1 : (2 : Int) ^ (15 - x.toNat) ≤ 2 ^ 14 := by
      have : (2 : Nat) ^ (15 - x.toNat) ≤ 2 ^ 14 := Nat.pow_le_pow_right (by omega) (by omega)
      exact_mod_cast this
    have h2 : (0 : Int) < 2 ^ (15 - x.toNat) := Int.pow_pos (by omega)
    omega
  · omega
theorem sum_take_succ {f : Int → Int} {F : List Int} {i : Nat} (h : i < F.length) : sumF f (F.take (i + 1)) = sumF f (F.take i) + f (F.getD i 0) := by
  rw [List.take_add_one, getD_get h, sumF_append]
  simp [sumF]
theorem sum_bounds {f : Int → Int} {F : List Int} {B : Int} (h : ∀ x ∈ F, 0 ≤ f x ∧ f x ≤ B) : 0 ≤ sumF f F ∧ sumF f F ≤ F.length * B := by
  refine ⟨sumF_nonneg fun x hx => (h x hx).1, ?_⟩
  rw [← sumF_const B F]
  exact sumF_mono fun x hx => (h x hx).2
def okLen (x : Int) : Bool := decide (0 ≤ x) && decide (x ≤ 15)
/-- May lengths be? -/
def mayF (l : List Int) : Bool := decide (l.length ≤ 320) && l.all okLen
theorem mayF_len {l : List Int} (h : mayF l = true) : l.length ≤ 320 ∧ ∀ x ∈ l, 0 ≤ x ∧ x ≤ 15 := by
  unfold mayF at h
  simp only [Bool.and_eq_true, decide_eq_true_eq, List.all_eq_true, okLen] at h
  exact ⟨h.1, fun x hx => h.2 x hx⟩
theorem all_take_succ {p : Int → Bool} {F : List Int} {i : Nat} (h : i < F.length) : (F.take (i + 1)).all p = ((F.take i).all p && p (F.getD i 0)) := by
  rw [List.take_add_one, getD_get h, List.all_append]
  simp
def badF (f : Int) : Bool := decide (f < 0 ∨ 4294967296 < f)
def anyBad (F : List Int) : Bool := F.any badF
theorem rd_num {w w' : World} {n : Nat} {F : List Int} {v : Value} {ps : List Piece} (hr : Rd w 1 v n (nums F)) (H : Own w w' ps) {i : Nat} (hi : i < F.length) {a : Option Addr} {c : Nat} (hv : v = .slice a n c) : ∃ b o, a = some ⟨b, o, none⟩ ∧ w'.cell? ⟨b, o + i, none⟩ = some (.int .i64 (F.getD i 0)) := by
  subst hv
  obtain ⟨b, o, c', he, _⟩ := hr.some (by rw [nums_length]; omega)
  cases he
  exact ⟨b, o, rfl, (hr.old H).cell (nums_get (by rw [List.getElem?_eq_getElem hi]; simp [List.getD_eq_getElem?_getD, hi]))⟩
theorem anyBad_take {F : List Int} {i : Nat} (h : i < F.length) : anyBad (F.take (i + 1)) = (anyBad (F.take i) || badF (F.getD i 0)) := by
  unfold anyBad
  rw [List.take_add_one, getD_get h, List.any_append]
  simp
/-- An int that is read. -/
theorem rd_at {w w' : World} {n : Nat} {F : List Int} {a : Option Addr} {c : Nat} {ps : List Piece} (hr : Rd w 1 (.slice a n c) n (nums F)) (H : Own w w' ps) {i : Nat} (hi : i < n) : ∃ b o, a = some ⟨b, o, none⟩ ∧ w'.cell? ⟨b, o + i, none⟩ = some (.int .i64 (F.getD i 0)) :=
  rd_num hr H (by have := hr.len; rw [nums_length] at this; omega) rfl
/-- Which error Lengths has; its lengths. -/
def badArg (F : List Int) (L : Int) : Bool := decide (L < 1) || decide (15 < L) || decide (320 < F.length) || anyBad F
def errF (F : List Int) (L : Int) : Int := if badArg F L then 1 else if 2 ^ L.toNat < (usedF F).length then 3 else 0
def resF (F : List Int) (L : Int) : List Int := if errF F L = 0 then lengthsF F L.toNat else []
/-- How many symbols have each length. -/
def countsF (l : List Int) : List Int := (bumpF (zerosF 16) l).set 0 0
theorem bump_bound (l : List Int) : ∀ (o : List Int) (j : Nat) (B : Int), (∀ j, 0 ≤ o.getD j 0 ∧ o.getD j 0 ≤ B) → 0 ≤ (bumpF o l).getD j 0 ∧ (bumpF o l).getD j 0 ≤ B + l.length := by
  induction l with
  | nil => intro o j B h; have := h j; simp [bumpF] at this ⊢; omega
  | cons x t ih =>
    intro o j B h
    have h2 : ∀ j, 0 ≤ (bump1 o x).getD j 0 ∧ (bump1 o x).getD j 0 ≤ B + 1 := by
      intro j
      unfold bump1
      have h1 := h j
      have h3 := h x.toNat
      rw [List.getD_eq_getElem?_getD, List.getElem?_set]
      rw [List.getD_eq_getElem?_getD] at h1
      split
      · split
        · simp; simp at h3; omega
        · simp; have := h 0; omega
      · omega
    have := ih (bump1 o x) j (B + 1) h2
    show 0 ≤ (bumpF (bump1 o x) t).getD j 0 ∧ (bumpF (bump1 o x) t).getD j 0 ≤ _
    rw [List.length_cons]
    omega
theorem zeros_get (n j : Nat) : (zerosF n).getD j 0 = 0 := by
  unfold zerosF
  rw [List.getD_eq_getElem?_getD, List.getElem?_replicate]
  split <;> rfl
/-- How many codes are left, of these counts. -/
def leftL : Int → List Int → Int
  | n, [] => n
  | n, k :: t => if 2 * n - k < 0 then -1 else leftL (2 * n - k) t
def leftF (cs : List Int) : Int := leftL 1 (cs.drop 1)
theorem nums_set (o : List Int) (s : Nat) (x : Int) : (nums o).set s (.int .i64 x) = nums (o.set s x) := by simp [nums, List.map_set]
theorem bump_take {o syms : List Int} {j : Nat} {x : Int} (hx : syms[j]? = some x) : bumpF o (syms.take (j + 1)) = bump1 (bumpF o (syms.take j)) x := by
  unfold bumpF
  rw [List.take_add_one, hx, List.foldl_append]
  rfl
theorem arr_set (cs : List Int) (k : Nat) (v : Int) : (nums cs).toArray.setIfInBounds k (.int .i64 v) = (nums (cs.set k v)).toArray := by
  rw [List.setIfInBounds_toArray, nums_set]
theorem arr_get {cs : List Int} {k : Nat} (h : k < cs.length) : (nums cs).toArray[k]? = some (.int .i64 (cs.getD k 0)) := by
  rw [List.getElem?_toArray]
  exact nums_get (getD_get h)
theorem arr_zero : (nums (zerosF 16)).toArray = #[.int .i64 0, .int .i64 0, .int .i64 0, .int .i64 0, .int .i64 0, .int .i64 0, .int .i64 0, .int .i64 0, .int .i64 0, .int .i64 0, .int .i64 0, .int .i64 0, .int .i64 0, .int .i64 0, .int .i64 0, .int .i64 0] := rfl
theorem nums_one (cs : List Int) : ∀ u ∈ nums cs, u.oneCell' = true := by
  intro u hu
  obtain ⟨x, _, rfl⟩ := List.mem_map.1 hu
  rfl
theorem store_whole (a b : List Value) (h : b.length = a.length) : (a.toArray.toList.take 0 ++ b ++ a.toArray.toList.drop (0 + b.length)).toArray = b.toArray := by
  simp [h]
/-- Which error Codes has; its codes. -/
def cerrF (l : List Int) : Int := if mayF l then (if sumF wtF l ≤ 2 ^ 15 then 0 else 2) else 1
theorem pow_pos_nat (d : Nat) (h : d ≤ 15) : ∃ p : Int, (2 : Int) ^ d = p ∧ 1 ≤ p ∧ p ≤ 32768 := by
  refine ⟨_, rfl, ?_, ?_⟩
  · have : (0 : Int) < 2 ^ d := Int.pow_pos (by omega)
    omega
  · have : (2 : Nat) ^ d ≤ 2 ^ 15 := Nat.pow_le_pow_right (by omega) h
    have h2 : ((2 ^ d : Nat) : Int) ≤ ((2 ^ 15 : Nat) : Int) := Int.ofNat_le.2 this
    simpa using h2
end Go.Proofs.Ytpbodonmiepilaa
/- huff: canonical codes, plainly. No program in sight. -/
namespace Go.Proofs.Ytpbodonmiepilaa

/-- How many lengths are k. -/
def cntL (l : List Int) (k : Nat) : Nat := l.countP fun x => decide (x = (k : Int))
/-- The first code of a length. -/
def lowT (n : Nat) (x : Int) : Int := if 0 < x ∧ x < n then 2 ^ (n - x.toNat) else 0
def lowF (l : List Int) (n : Nat) : Int := sumF (lowT n) l
/-- As the counts have it: none of length 0. -/
def cntC (l : List Int) (k : Nat) : Int := if k = 0 then 0 else cntL l k
/-- A symbol's code. -/
def codeF (l : List Int) (s : Nat) : Int := if 0 < l.getD s 0 then lowF l (l.getD s 0).toNat + cntL (l.take s) (l.getD s 0).toNat else 0
def codesF (l : List Int) : List Int := (List.range l.length).map (codeF l)
theorem codesF_length (l : List Int) : (codesF l).length = l.length := by simp [codesF]
theorem codesF_get {l : List Int} {s : Nat} (h : s < l.length) : (codesF l).getD s 0 = codeF l s := by
  unfold codesF
  rw [List.getD_eq_getElem?_getD]
  simp [h]

section
variable {l : List Int}
theorem cntL_take_succ {k s : Nat} (h : s < l.length) : cntL (l.take (s + 1)) k = cntL (l.take s) k + if l.getD s 0 = (k : Int) then 1 else 0 := by
  unfold cntL
  rw [List.take_add_one, getD_get h, List.countP_append]
  simp
theorem cntL_le (l : List Int) (k : Nat) : cntL l k ≤ l.length := List.countP_le_length
theorem cntL_take_le (l : List Int) (s k : Nat) : cntL (l.take s) k ≤ cntL l k := (List.take_sublist s l).countP_le
theorem cntL_mono {s t k : Nat} (h : s ≤ t) : cntL (l.take s) k ≤ cntL (l.take t) k := by
  have : (l.take t).take s = l.take s := by rw [List.take_take, Nat.min_eq_left h]
  rw [← this]
  exact cntL_take_le _ _ _
theorem lowT_nonneg (n : Nat) (x : Int) : 0 ≤ lowT n x := by
  unfold lowT
  split
  · exact Int.le_of_lt (Int.pow_pos (by omega))
  · exact Int.le_refl _
theorem lowF_nonneg (l : List Int) (n : Nat) : 0 ≤ lowF l n := sumF_nonneg fun x _ => lowT_nonneg n x
theorem lowF_zero (l : List Int) : lowF l 0 = 0 := by
  unfold lowF
  rw [sumF_congr (g := fun _ => 0) (fun x _ => by unfold lowT; rw [if_neg]; rintro ⟨h1, h2⟩; have : x < 0 := h2; omega), sumF_const]
  simp
theorem lowF_succ (l : List Int) (n : Nat) : lowF l (n + 1) = 2 * (lowF l n + cntC l n) := by
  have key : ∀ x : Int, lowT (n + 1) x = 2 * (lowT n x + if x = (n : Int) ∧ n ≠ 0 then 1 else 0) := by
    intro x
    unfold lowT
    by_cases h1 : 0 < x ∧ x < n
    · rw [if_pos h1, if_pos ⟨h1.1, by omega⟩, if_neg (by omega), show n + 1 - x.toNat = (n - x.toNat) + 1 by omega, Int.pow_succ]
      omega
    · rw [if_neg h1]
      by_cases h2 : x = (n : Int) ∧ n ≠ 0
      · rw [if_pos h2, if_pos ⟨by omega, by omega⟩]
        have : n + 1 - x.toNat = 1 := by omega
        rw [this]
        rfl
      · rw [if_neg h2, if_neg (by omega)]
        rfl
  unfold lowF
  rw [sumF_congr (fun x _ => key x)]
  clear key
  have h2 : ∀ l : List Int, sumF (fun x => 2 * (lowT n x + if x = (n : Int) ∧ n ≠ 0 then 1 else 0)) l = 2 * (sumF (lowT n) l + cntC l n) := by
    intro l
    induction l with
    | nil => simp [sumF, cntC, cntL]
    | cons x t ih =>
      rw [sumF_cons, ih, sumF_cons]
      unfold cntC cntL
      rw [List.countP_cons]
      by_cases hn : n = 0
      · simp [hn]; omega
      · by_cases hx : x = (n : Int)
        · simp [hn, hx]; omega
        · simp [hn, hx]; omega
  exact h2 l
theorem low_weight (hl : ∀ x ∈ l, 0 ≤ x ∧ x ≤ 15) : lowF l 15 + cntC l 15 = sumF wtF l := by
  have h := lowF_succ l 15
  have key : lowF l 16 = 2 * sumF wtF l := by
    unfold lowF
    clear h
    induction l with
    | nil => rfl
    | cons x t ih =>
      rw [sumF_cons, sumF_cons, ih fun y hy => hl y (by simp [hy])]
      have := hl x (by simp)
      have e : lowT 16 x = 2 * wtF x := by
        unfold lowT wtF
        by_cases hx : 0 < x
        · rw [if_pos ⟨hx, by omega⟩, if_pos hx, show 16 - x.toNat = (15 - x.toNat) + 1 by omega, Int.pow_succ]
          omega
        · rw [if_neg (by omega), if_neg hx]; rfl
      rw [e]
      omega
  have e : lowF l (15 + 1) = lowF l 16 := rfl
  rw [e, key] at h
  omega
theorem cntC_nonneg (l : List Int) (k : Nat) : 0 ≤ cntC l k := by unfold cntC; split <;> omega
/-- What a level takes, further on. -/
theorem low_far (l : List Int) (n : Nat) : ∀ d, 2 ^ (d + 1) * (lowF l n + cntC l n) ≤ lowF l (n + 1 + d) := by
  intro d
  induction d with
  | zero => rw [Nat.add_zero, lowF_succ]; simp
  | succ d ih =>
    rw [← Nat.add_assoc, lowF_succ, Int.pow_succ]
    have := cntC_nonneg l (n + 1 + d)
    have e : (2 : Int) ^ (d + 1) * 2 * (lowF l n + cntC l n) = 2 * (2 ^ (d + 1) * (lowF l n + cntC l n)) := by
      rw [Int.mul_comm (2 ^ (d + 1)) 2, Int.mul_assoc]
    rw [e]
    omega
/-- What is not too great is so on each level. -/
theorem low_room (hl : ∀ x ∈ l, 0 ≤ x ∧ x ≤ 15) (hw : sumF wtF l ≤ 2 ^ 15) (n : Nat) (hn : n ≤ 15) : lowF l n + cntC l n ≤ 2 ^ n := by
  rw [← low_weight hl] at hw
  rcases Nat.lt_or_ge n 15 with h | h
  · have h1 := low_far l n (14 - n)
    have e : n + 1 + (14 - n) = 15 := by omega
    rw [e] at h1
    have h2 := cntC_nonneg l 15
    have h3 : (2 : Int) ^ (14 - n + 1) * (lowF l n + cntC l n) ≤ 2 ^ (14 - n + 1) * 2 ^ n := by
      rw [← Int.pow_add, show 14 - n + 1 + n = 15 by omega]
      omega
    exact Int.le_of_mul_le_mul_left h3 (Int.pow_pos (by omega))
  · have : n = 15 := by omega
    subst this
    exact hw
theorem counts_get (hl : ∀ x ∈ l, 0 ≤ x ∧ x ≤ 15) (k : Nat) (hk : k < 16) : (countsF l).getD k 0 = cntC l k := by
  have hb : (bumpF (zerosF 16) l).length = 16 := by rw [bumpF_length]; simp [zerosF]
  unfold countsF cntC
  rw [List.getD_eq_getElem?_getD, List.getElem?_set]
  by_cases h0 : k = 0
  · subst h0
    rw [if_pos rfl, if_pos rfl, if_pos (by omega)]
    rfl
  · rw [if_neg (fun e => h0 e.symm), if_neg h0, ← List.getD_eq_getElem?_getD, bumpF_get _ _ _ (fun x hx => ⟨x.toNat, by have := hl x hx; omega, by have := hl x hx; simp [zerosF]; omega⟩), zeros_get]
    unfold cntL
    omega
theorem counts_length (l : List Int) : (countsF l).length = 16 := by unfold countsF; rw [List.length_set, bumpF_length]; simp [zerosF]
theorem left_step (l : List Int) (hl : ∀ x ∈ l, 0 ≤ x ∧ x ≤ 15) : ∀ m j, j + m = 15 → lowF l j + cntC l j ≤ 2 ^ j →
    leftL (2 ^ j - (lowF l j + cntC l j)) ((countsF l).drop (1 + j)) = if sumF wtF l ≤ 2 ^ 15 then 2 ^ 15 - sumF wtF l else -1 := by
  intro m
  induction m with
  | zero =>
    intro j hj hle
    have : j = 15 := by omega
    subst this
    rw [List.drop_eq_nil_of_le (by rw [counts_length]; omega), leftL]
    rw [low_weight hl] at hle ⊢
    rw [if_pos hle]
  | succ m ih =>
    intro j hj hle
    have hd : (countsF l).drop (1 + j) = (countsF l).getD (1 + j) 0 :: (countsF l).drop (1 + (j + 1)) := by
      have := counts_length l
      rw [List.drop_eq_getElem_cons (by omega), List.getD_eq_getElem?_getD, List.getElem?_eq_getElem (by omega)]
      rfl
    rw [hd, leftL, counts_get hl _ (by omega)]
    have e : 2 * (2 ^ j - (lowF l j + cntC l j)) - cntC l (1 + j) = 2 ^ (j + 1) - (lowF l (j + 1) + cntC l (j + 1)) := by
      rw [lowF_succ, Int.pow_succ, Nat.add_comm 1 j]
      omega
    rw [e]
    by_cases hneg : 2 ^ (j + 1) - (lowF l (j + 1) + cntC l (j + 1)) < 0
    · rw [if_pos hneg, if_neg]
      intro hw
      have := low_room hl hw (j + 1) (by omega)
      omega
    · rw [if_neg hneg]
      exact ih (j + 1) (by omega) (by omega)
theorem left_law (hl : ∀ x ∈ l, 0 ≤ x ∧ x ≤ 15) : leftF (countsF l) = if sumF wtF l ≤ 2 ^ 15 then 2 ^ 15 - sumF wtF l else -1 := by
  have := left_step l hl 15 0 rfl (by rw [lowF_zero]; simp [cntC])
  rw [lowF_zero] at this
  exact this

/-! ### codes -/
theorem code_lt {s : Nat} (hs : s < l.length) (h0 : 0 < l.getD s 0) : codeF l s + 1 ≤ lowF l (l.getD s 0).toNat + cntC l (l.getD s 0).toNat := by
  unfold codeF cntC
  rw [if_pos h0, if_neg (by omega)]
  have h1 := cntL_take_succ (k := (l.getD s 0).toNat) hs
  rw [if_pos (by omega)] at h1
  have h2 := cntL_take_le l (s + 1) (l.getD s 0).toNat
  omega
theorem code_nonneg (s : Nat) : 0 ≤ codeF l s := by
  unfold codeF
  split
  · have := lowF_nonneg l (l.getD s 0).toNat; omega
  · omega
/-- Each code goes into its length. -/
theorem code_fits (hl : ∀ x ∈ l, 0 ≤ x ∧ x ≤ 15) (hw : sumF wtF l ≤ 2 ^ 15) {s : Nat} (hs : s < l.length) (h0 : 0 < l.getD s 0) : codeF l s < 2 ^ (l.getD s 0).toNat := by
  have h1 := code_lt hs h0
  have hm : l.getD s 0 ∈ l := by rw [List.getD_eq_getElem?_getD, List.getElem?_eq_getElem hs]; exact List.getElem_mem _
  have h2 := low_room hl hw (l.getD s 0).toNat (by have := hl _ hm; omega)
  omega
/-- No code is the beginning of another one's. -/
theorem code_prefix {i j : Nat} (hi : i < l.length) (hj : j < l.length) (h0 : 0 < l.getD i 0) (hij : l.getD i 0 ≤ l.getD j 0) (hne : i ≠ j) : codeF l j / 2 ^ ((l.getD j 0).toNat - (l.getD i 0).toNat) ≠ codeF l i := by
  rcases Int.lt_or_eq_of_le hij with h | h
  · have h1 := code_lt hi h0
    have h2 := low_far l (l.getD i 0).toNat ((l.getD j 0).toNat - (l.getD i 0).toNat - 1)
    have e1 : (l.getD j 0).toNat - (l.getD i 0).toNat - 1 + 1 = (l.getD j 0).toNat - (l.getD i 0).toNat := by omega
    have e2 : (l.getD i 0).toNat + 1 + ((l.getD j 0).toNat - (l.getD i 0).toNat - 1) = (l.getD j 0).toNat := by omega
    rw [e1, e2] at h2
    have h3 : lowF l (l.getD j 0).toNat ≤ codeF l j := by unfold codeF; rw [if_pos (by omega)]; omega
    have hp : (0 : Int) < 2 ^ ((l.getD j 0).toNat - (l.getD i 0).toNat) := Int.pow_pos (by omega)
    have h4 : (codeF l i + 1) * 2 ^ ((l.getD j 0).toNat - (l.getD i 0).toNat) ≤ codeF l j := by
      have := Int.mul_le_mul_of_nonneg_left h1 (Int.le_of_lt hp)
      rw [Int.mul_comm (codeF l i + 1)]
      omega
    have h5 := (Int.le_ediv_iff_mul_le hp).2 h4
    omega
  · rw [h, Nat.sub_self]
    simp only [Int.pow_zero, Int.ediv_one]
    unfold codeF
    rw [if_pos (by omega), if_pos h0, h]
    intro he
    rcases Nat.lt_trichotomy i j with h1 | h1 | h1
    · have h2 := cntL_take_succ (l := l) (k := (l.getD j 0).toNat) hi
      rw [if_pos (by omega)] at h2
      have h3 := cntL_mono (l := l) (k := (l.getD j 0).toNat) (show i + 1 ≤ j by omega)
      omega
    · exact hne h1
    · have h2 := cntL_take_succ (l := l) (k := (l.getD j 0).toNat) hj
      rw [if_pos (by omega)] at h2
      have h3 := cntL_mono (l := l) (k := (l.getD j 0).toNat) (show j + 1 ≤ i by omega)
      omega

/-! ### the document's sum -/
/-- What stands ahead of a symbol, of the first k, in parts of 2^15. -/
def befT (l : List Int) (s t : Nat) : Int := if 0 < l.getD t 0 ∧ (l.getD t 0 < l.getD s 0 ∨ l.getD t 0 = l.getD s 0 ∧ t < s) then 2 ^ (15 - (l.getD t 0).toNat) else 0
def befN (l : List Int) (s : Nat) : Nat → Int
  | 0 => 0
  | k + 1 => befN l s k + befT l s k
theorem bef_law (hl : ∀ x ∈ l, 0 ≤ x ∧ x ≤ 15) {s : Nat} (hs : s < l.length) (h0 : 0 < l.getD s 0) : ∀ k, k ≤ l.length → befN l s k = 2 ^ (15 - (l.getD s 0).toNat) * (lowF (l.take k) (l.getD s 0).toNat + cntL (l.take (min k s)) (l.getD s 0).toNat) := by
  intro k
  induction k with
  | zero => intro _; simp [befN, lowF, sumF, cntL]
  | succ k ih =>
    intro hk
    have hks : k < l.length := by omega
    rw [befN, ih (by omega)]
    have e1 : lowF (l.take (k + 1)) (l.getD s 0).toNat = lowF (l.take k) (l.getD s 0).toNat + lowT (l.getD s 0).toNat (l.getD k 0) := sum_take_succ hks
    have hm : l.getD s 0 ∈ l := by rw [List.getD_eq_getElem?_getD, List.getElem?_eq_getElem hs]; exact List.getElem_mem _
    have hmk : l.getD k 0 ∈ l := by rw [List.getD_eq_getElem?_getD, List.getElem?_eq_getElem hks]; exact List.getElem_mem _
    have b1 := hl _ hm
    have b2 := hl _ hmk
    rw [e1]
    have e2 : cntL (l.take (min (k + 1) s)) (l.getD s 0).toNat = cntL (l.take (min k s)) (l.getD s 0).toNat + if l.getD k 0 = l.getD s 0 ∧ k < s then 1 else 0 := by
      by_cases hk2 : k < s
      · rw [show min (k + 1) s = k + 1 by omega, show min k s = k by omega, cntL_take_succ hks]
        congr 1
        by_cases h : l.getD k 0 = l.getD s 0
        · rw [if_pos (by omega), if_pos ⟨h, hk2⟩]
        · rw [if_neg (by omega), if_neg (fun hh => h hh.1)]
      · rw [show min (k + 1) s = s by omega, show min k s = s by omega, if_neg (fun hh => hk2 hh.2)]
        omega
    rw [e2]
    have e3 : befT l s k = 2 ^ (15 - (l.getD s 0).toNat) * (lowT (l.getD s 0).toNat (l.getD k 0) + ((if l.getD k 0 = l.getD s 0 ∧ k < s then 1 else 0 : Nat) : Int)) := by
      unfold befT lowT
      by_cases h1 : 0 < l.getD k 0 ∧ l.getD k 0 < l.getD s 0
      · rw [if_pos ⟨h1.1, .inl h1.2⟩, if_pos ⟨h1.1, by omega⟩, if_neg (by omega)]
        simp only [Int.cast_ofNat_Int, Int.add_zero]
        rw [← Int.pow_add]
        congr 1
        omega
      · by_cases h2 : l.getD k 0 = l.getD s 0 ∧ k < s
        · rw [if_pos ⟨by omega, .inr h2⟩, if_neg (by omega), if_pos h2, h2.1]
          simp
        · rw [if_neg (fun hh => by rcases hh.2 with h | h; exact h1 ⟨hh.1, h⟩; exact h2 h), if_neg (by omega), if_neg h2]
          simp
    rw [e3]
    simp only [Int.natCast_add, Int.mul_add]
    omega
theorem bef_code (hl : ∀ x ∈ l, 0 ≤ x ∧ x ≤ 15) {s : Nat} (hs : s < l.length) (h0 : 0 < l.getD s 0) : befN l s l.length = 2 ^ (15 - (l.getD s 0).toNat) * codeF l s := by
  rw [bef_law hl hs h0 _ (Nat.le_refl _), List.take_length, Nat.min_eq_right (by omega)]
  unfold codeF
  rw [if_pos h0]
theorem bef_shift (hl : ∀ x ∈ l, 0 ≤ x ∧ x ≤ 15) {s : Nat} (hs : s < l.length) (h0 : 0 < l.getD s 0) : befN l s l.length / 2 ^ (15 - (l.getD s 0).toNat) = codeF l s := by
  rw [bef_code hl hs h0]
  exact Int.mul_ediv_cancel_left _ (by have : (0 : Int) < 2 ^ (15 - (l.getD s 0).toNat) := Int.pow_pos (by omega); omega)
theorem befT_bounds (hl : ∀ x ∈ l, 0 ≤ x ∧ x ≤ 15) (s t : Nat) : 0 ≤ befT l s t ∧ befT l s t ≤ 16384 := by
  unfold befT
  split
  · next h =>
    have h1 : (2 : Int) ^ (15 - (l.getD t 0).toNat) ≤ 2 ^ 14 := by
      have : (2 : Nat) ^ (15 - (l.getD t 0).toNat) ≤ 2 ^ 14 := Nat.pow_le_pow_right (by omega) (by omega)
      exact_mod_cast this
    have h2 : (0 : Int) < 2 ^ (15 - (l.getD t 0).toNat) := Int.pow_pos (by omega)
    omega
  · omega
theorem befN_bounds (hl : ∀ x ∈ l, 0 ≤ x ∧ x ≤ 15) (s k : Nat) : 0 ≤ befN l s k ∧ befN l s k ≤ k * 16384 := by
  induction k with
  | zero => simp [befN]
  | succ k ih => rw [befN]; have := befT_bounds hl s k; omega
end
end Go.Proofs.Ytpbodonmiepilaa
/- append of a string's bytes to a slice of the call's own; bytes made a string. No program in sight. -/
namespace Go.Proofs.Ytpbodonmiepilaa
open Go.RowKit Go.Lib

section
variable {w0 w w' : World} {p q : Piece} {ps qs : List Piece} {e : TypeId} {n : Nat} {v : Value} {xs : List Value}
variable {P : Program} {t u ty : TypeId} {i : TypeInfo} {z : Value}

theorem strCells_eq (s : ByteArray) : strCells s = byteCells s := by
  simp [strCells, byteCells]

theorem run_append_str_sep (H : Own w0 w (slc e 1 v n xs :: ps)) (ht : P.underlying t = some (.slice e)) (hu : P.underlying u = some .string) (hi : P.info? e = some i) (hz : i.zero = some z) (hsize : i.size = 1) (hby : i.bytes = 1) (hzs : z.cells.size = 1)
    (s : ByteArray) (h63 : n + s.size ≤ maxLen) (hbytes : n + s.size ≤ 140737488355328) :
    ∃ v' w', (Builtin.append_ #[t, u] ty #[v, .string s]).run P w = .ok v' w' ∧ Own w0 w' (slc e 1 v' (n + s.size) (xs ++ byteCells s) :: ps) := by
  have hsmall : n + s.size ≤ 9223372036854775807 := by simpa [maxLen] using h63
  have hnl := H.slc_len
  rw [Nat.mul_one] at hnl
  have hbl := byteCells_length s
  have hlen : (xs ++ byteCells s).length = (n + s.size) * 1 := by rw [List.length_append, hnl, hbl]; omega
  have src : Src P i.size u (.string s) s.size (byteCells s) w := by rw [hsize]; exact Src.ofString w hu s
  have grown : ∀ (qs : List Piece), Own w0 w qs → ∀ (old : Nat), old < n + s.size →
      Own w0 (w.drew.alloc (.cells ((xs ++ byteCells s).toArray ++ Builtin.zeroCells z.cells (grownCap w (n + s.size) old e - (n + s.size))) e))
        (slc e 1 (.slice (some ⟨w.heap.size, 0, none⟩) (n + s.size) (grownCap w (n + s.size) old e)) (n + s.size) (xs ++ byteCells s) :: qs) := by
    intro qs hqs old ho
    have hge := grownCap_ge w (n + s.size) old e
    have hcm : grownCap w (n + s.size) old e ≤ maxLen := grownCap_le_maxLen w (n + s.size) old e h63
    refine (hqs.drew.alloc _).slc_mk hlen hge hcm ?_ ?_
    · simp only [Array.size_append, List.size_toArray, size_zeroCells, hzs, hlen]
      omega
    · simp only [Array.toList_append]
      rw [← hlen]
      exact List.take_left
  rcases H.slc_cases with ⟨rfl, rfl, rfl, h5⟩ | ⟨g, cap, cur, rfl, _, hc1, hc2, hc3, hc4, h5⟩
  · by_cases h0 : s.size = 0
    · have hb0 : byteCells s = [] := List.eq_nil_of_length_eq_zero (by omega)
      refine ⟨.slice none 0 0, w, ?_, by simpa [h0, hb0] using H⟩
      simp [Builtin.append_, run_underlying ht, run_underlying hu, sizeOf, typeInfo, hi, Builtin.lenOf, h0, Builtin.firstCells]
    · have hr := run_append_grow_src (P := P) w t u ty e i z ht hi hz none 0 0 [] (run_firstCells_none (P := P) w.drew i.size 0 0 0) (.string s) s.size (byteCells s) src (by omega) (by omega) (growslice_fits (by omega) (by rw [hby]; omega))
      exact ⟨_, _, hr, grown _ h5 0 (by omega)⟩
  · by_cases hroom : n + s.size ≤ cap
    · have hr := run_append_room_string (P := P) w t u ty e i ht hu hi hsize g n cap cur h5.block.1 s hroom (by omega)
      refine ⟨_, _, hr, ?_⟩
      have hset : Own w0 (w.setRow g (cur.toList.take n ++ strCells s ++ cur.toList.drop (n + s.size)).toArray) (blk g (.cells (cur.toList.take n ++ strCells s ++ cur.toList.drop (n + s.size)).toArray e) :: ps) := h5.setRow
      refine hset.slc_mk hlen hroom hc2 ?_ ?_
      · simp only [List.size_toArray, List.length_append, List.length_take, List.length_drop, Array.length_toList, strCells_eq, hbl]
        omega
      · rw [Nat.mul_one] at hc4
        rw [hc4, ← hlen, strCells_eq]
        exact List.take_left
    · have holds : ∀ j u, xs[j]? = some u → w.cell? ((⟨g, 0, none⟩ : Addr).add j) = some u := by
        obtain ⟨_, _, _, hv, _, _, _, hcl⟩ := H.rd
        cases hv
        exact hcl _ rfl
      have hfo := run_firstCells_some (P := P) w.drew i.size n ⟨g, 0, none⟩ n cap xs (by rw [hsize]; omega) (by simpa using holds)
      have hr := run_append_grow_src (P := P) w t u ty e i z ht hi hz (some ⟨g, 0, none⟩) n cap xs hfo (.string s) s.size (byteCells s) src (by omega) (by omega) (growslice_fits (by omega) (by rw [hby]; omega))
      exact ⟨_, _, hr, grown _ h5.drop cap (by omega)⟩

/-- 'out = append(out, s...)' in a walk, out the call's own. -/
theorem wpList_append_str {ops : Array Oper} {rest : List Oper} {o : Oper} {a : Act} {Q : Exit → Act → World → Prop} (hgd : o.guard = none) (x y : Operand)
    (ho : o.op = .call { callee := .builtin .append, args := #[x, y], argTypes := #[t, u] })
    (ht : P.underlying t = some (.slice e)) (hu : P.underlying u = some .string) (hinfo : (P.info? e).map (fun i => (i.zero, i.size, i.bytes)) = some (some z, 1, 1)) (hzs : z.cells.size = 1)
    (hs : a.eval x = v) (H : Own w0 w (slc e 1 v n xs :: ps)) {s : ByteArray} (hx : a.eval y = .string s)
    (h63 : n + s.size ≤ 140737488355328)
    (h : ∀ v' w', Own w0 w' (slc e 1 v' (n + s.size) (xs ++ byteCells s) :: ps) → wpList P ops Q rest (a.put o.dst v') w') : wpList P ops Q (o :: rest) a w := by
  obtain ⟨i, hi, hz, hsize, hby⟩ := info_parts hinfo
  refine wpList_plain hgd fun K hK => ?_
  obtain ⟨v', w', hr, h2⟩ := run_append_str_sep (P := P) (ty := o.type) H ht hu hi hz hsize hby hzs s (by simp only [maxLen]; omega) h63
  unfold Oper.wp execOp
  simp only [ho, resolve, invoke, builtin, Sem.run_bind, Sem.run_pure, Result.andThen_ok, List.map_toArray, List.map_cons, List.map_nil, hs, hx, hr]
  exact hK _ _ (h v' w' h2)

/-- bytes made a string -/
theorem run_string_sep (src dst : TypeId) (hs : P.underlying src = some (.slice e)) (he : P.underlying e = some (.int .u8)) (hd : P.underlying dst = some .string) {ns : List Int} (h : Rd w 1 v n (ns.map (.int .u8))) :
    (convert src dst v).run P w = .ok (.string (strOfNums ns)) w := by
  have hl : ns.length = n := by have := h.len; simpa using this
  by_cases h0 : n = 0
  · subst h0
    obtain ⟨a, c, rfl, _, _⟩ := h.shape
    obtain rfl := List.eq_nil_of_length_eq_zero hl
    cases a with
    | none => rw [run_convert_bytes_nil w src e hs he 0 c dst hd]; rfl
    | some ad =>
      rw [run_convert_bytes_string w src dst e _ 0 c hs he hd, run_bytesToString w ad 0 c [] (by simp [loadCells, loadCellsFrom])]
      rfl
  · obtain ⟨b, o, c, rfl, _, _, hc⟩ := h.at (by simp; omega)
    refine run_convert_bytes_arg w src e hs he b o n c ns hl (fun j hj => ?_) dst hd
    exact hc j _ (ints_get _ _ (by omega))
end
end Go.Proofs.Ytpbodonmiepilaa
/- Bits: lists of bits, and the bytes that they are. No program in sight. -/
namespace Go.Proofs.Ytpbodonmiepilaa

def bi (b : Bool) : Int := if b then 1 else 0
theorem bi_bd (b : Bool) : 0 ≤ bi b ∧ bi b ≤ 1 := by cases b <;> decide
/-- The number that bits are, the lowest first. -/
def valOf : List Bool → Int
  | [] => 0
  | b :: t => bi b + 2 * valOf t
theorem valOf_bd : ∀ l : List Bool, 0 ≤ valOf l ∧ valOf l < 2 ^ l.length
  | [] => by simp [valOf]
  | b :: t => by
    have h := valOf_bd t
    have hb := bi_bd b
    simp only [valOf, List.length_cons, Int.pow_succ]
    omega
theorem valOf_append : ∀ l m : List Bool, valOf (l ++ m) = valOf l + 2 ^ l.length * valOf m
  | [], m => by simp [valOf]
  | b :: t, m => by
    simp only [List.cons_append, valOf, valOf_append t m, List.length_cons, Int.pow_succ]
    rw [Int.mul_add, Int.mul_comm (2 ^ t.length) 2, Int.mul_assoc]
    omega
theorem valOf_snoc (l : List Bool) (b : Bool) : valOf (l ++ [b]) = valOf l + 2 ^ l.length * bi b := by
  rw [valOf_append]; simp [valOf]

theorem pow2_le {a b : Nat} (h : a ≤ b) : (2 : Int) ^ a ≤ 2 ^ b := by
  have := Int.ofNat_le.2 (Nat.pow_le_pow_right (show 0 < 2 by decide) h)
  simpa [Int.natCast_pow] using this
/-- The k-th byte. -/
def byteAt (bs : List Bool) (k : Nat) : Int := valOf ((bs.drop (8 * k)).take 8)
theorem byteAt_bd (bs : List Bool) (k : Nat) : 0 ≤ byteAt bs k ∧ byteAt bs k < 256 := by
  have h := valOf_bd ((bs.drop (8 * k)).take 8)
  refine ⟨h.1, Int.lt_of_lt_of_le h.2 ?_⟩
  have hl : ((bs.drop (8 * k)).take 8).length ≤ 8 := by simp; omega
  exact pow2_le hl
/-- A byte that is not full yet. -/
theorem byteAt_bd' (bs : List Bool) : byteAt bs (bs.length / 8) < 2 ^ (bs.length % 8) := by
  have h := valOf_bd ((bs.drop (8 * (bs.length / 8))).take 8)
  have hl : ((bs.drop (8 * (bs.length / 8))).take 8).length = bs.length % 8 := by simp; omega
  rw [hl] at h
  exact h.2
theorem byteAt_out (bs : List Bool) (k : Nat) (h : bs.length ≤ 8 * k) : byteAt bs k = 0 := by
  unfold byteAt
  rw [List.drop_eq_nil_of_le h]
  rfl
theorem byteAt_snoc (bs : List Bool) (b : Bool) (k : Nat) : byteAt (bs ++ [b]) k = if k = bs.length / 8 then byteAt bs k + 2 ^ (bs.length % 8) * bi b else byteAt bs k := by
  unfold byteAt
  split
  · next h =>
    subst h
    have hl : (bs.drop (8 * (bs.length / 8))).length = bs.length % 8 := by simp; omega
    rw [List.drop_append_of_le_length (by omega), List.take_of_length_le (by simp; omega), List.take_of_length_le (by omega), valOf_snoc, hl]
  · next h =>
    by_cases hk : 8 * k ≤ bs.length
    · rw [List.drop_append_of_le_length hk, List.take_append_of_le_length (by simp; omega)]
    · rw [List.drop_eq_nil_of_le (by simp; omega), List.drop_eq_nil_of_le (by omega)]

def nbytes (n : Nat) : Nat := (n + 7) / 8
/-- The bytes. -/
def bytesOf (bs : List Bool) : List Int := (List.range (nbytes bs.length)).map (byteAt bs)
theorem bytesOf_length (bs : List Bool) : (bytesOf bs).length = nbytes bs.length := by simp [bytesOf]
theorem bytesOf_get (bs : List Bool) {k : Nat} (h : k < nbytes bs.length) : (bytesOf bs)[k]? = some (byteAt bs k) := by simp [bytesOf, h]
theorem bytesOf_bd (bs : List Bool) : ∀ x ∈ bytesOf bs, 0 ≤ x ∧ x < 256 := by
  intro x hx
  obtain ⟨k, _, rfl⟩ := List.mem_map.1 hx
  exact byteAt_bd bs k

/-- One bit more: the row in which its byte is there, that byte turned. -/
theorem bytesOf_snoc (bs : List Bool) (b : Bool) (L : List Int) (hL : L = if bs.length % 8 = 0 then bytesOf bs ++ [0] else bytesOf bs) :
    L.length = nbytes (bs.length + 1) ∧ L[bs.length / 8]? = some (byteAt bs (bs.length / 8)) ∧ bytesOf (bs ++ [b]) = L.set (bs.length / 8) (byteAt bs (bs.length / 8) + 2 ^ (bs.length % 8) * bi b) := by
  have hlen : L.length = nbytes (bs.length + 1) := by
    rw [hL]
    split <;> simp [bytesOf_length, nbytes] <;> omega
  have hget : ∀ k, k < nbytes (bs.length + 1) → L[k]? = some (byteAt bs k) := by
    intro k hk
    rw [hL]
    split
    · next h0 =>
      by_cases hk2 : k < nbytes bs.length
      · rw [List.getElem?_append_left (by rw [bytesOf_length]; exact hk2), bytesOf_get bs hk2]
      · unfold nbytes at hk hk2
        rw [List.getElem?_append_right (by rw [bytesOf_length]; unfold nbytes; omega), bytesOf_length, byteAt_out bs k (by omega)]
        have : k - nbytes bs.length = 0 := by unfold nbytes; omega
        rw [this]; rfl
    · next h0 => exact bytesOf_get bs (by unfold nbytes at *; omega)
  refine ⟨hlen, hget _ (by unfold nbytes; omega), ?_⟩
  apply List.ext_getElem?
  intro k
  by_cases hk : k < nbytes (bs.length + 1)
  · rw [bytesOf_get _ (by simpa using hk), byteAt_snoc, List.getElem?_set]
    split
    · next h => rw [if_pos h.symm, if_pos (by omega), h]
    · next h => rw [if_neg (by omega), hget k hk]
  · rw [List.getElem?_eq_none (by rw [bytesOf_length]; simp; omega), List.getElem?_eq_none (by rw [List.length_set]; omega)]

theorem bytesOf_nil : bytesOf [] = [] := rfl

/-- Aligned: zeros up to the next byte. -/
def padN (n : Nat) : Nat := (8 - n % 8) % 8
def aligned (bs : List Bool) : List Bool := bs ++ List.replicate (padN bs.length) false
theorem aligned_length (bs : List Bool) : (aligned bs).length = 8 * nbytes bs.length := by simp [aligned, padN, nbytes]; omega
theorem valOf_zeros (n : Nat) : valOf (List.replicate n false) = 0 := by
  induction n with
  | zero => rfl
  | succ n ih => simp [List.replicate_succ, valOf, bi, ih]
theorem byteAt_aligned (bs : List Bool) (k : Nat) : byteAt (aligned bs) k = byteAt bs k := by
  unfold byteAt aligned
  by_cases hk : 8 * k ≤ bs.length
  · rw [List.drop_append_of_le_length hk, List.take_append, valOf_append, List.take_replicate, valOf_zeros]
    simp
  · rw [List.drop_eq_nil_of_le (show bs.length ≤ 8 * k by omega), List.drop_eq_nil_of_le (by simp [padN]; omega)]
theorem bytesOf_aligned (bs : List Bool) : bytesOf (aligned bs) = bytesOf bs := by
  unfold bytesOf
  rw [aligned_length, show nbytes (8 * nbytes bs.length) = nbytes bs.length by unfold nbytes; omega]
  exact List.map_congr_left fun k _ => byteAt_aligned bs k

/-! ### numbers -/
def bitOf (v : Int) (i : Nat) : Bool := decide (v / 2 ^ i % 2 = 1)
theorem bi_bitOf (v : Int) (i : Nat) : bi (bitOf v i) = v / 2 ^ i % 2 := by
  unfold bi bitOf
  simp only [decide_eq_true_eq]
  split <;> omega
def bitsOf (v : Int) (n : Nat) : List Bool := (List.range n).map (bitOf v)
theorem bitsOf_length (v : Int) (n : Nat) : (bitsOf v n).length = n := by simp [bitsOf]
theorem bitsOf_succ (v : Int) (n : Nat) : bitsOf v (n + 1) = bitsOf v n ++ [bitOf v n] := by simp [bitsOf, List.range_succ]
theorem valOf_bitsOf (v : Int) : ∀ n : Nat, valOf (bitsOf v n) = v % 2 ^ n
  | 0 => by simp [bitsOf, valOf, Int.emod_one]
  | n + 1 => by
    rw [bitsOf_succ, valOf_snoc, valOf_bitsOf v n, bitsOf_length, bi_bitOf, Int.pow_succ]
    have hp : (0 : Int) < 2 ^ n := Int.pow_pos (by decide)
    obtain ⟨m, hm⟩ : ∃ m : Int, m = 2 ^ n := ⟨_, rfl⟩
    rw [← hm] at hp ⊢
    have h1 := Int.mul_ediv_add_emod v m
    have h2 := Int.mul_ediv_add_emod (v / m) 2
    have h3 : v = m * 2 * (v / m / 2) + (v % m + m * (v / m % 2)) := by
      have e : v / m = 2 * (v / m / 2) + v / m % 2 := by omega
      have e2 : m * (v / m) = m * 2 * (v / m / 2) + m * (v / m % 2) := by
        have := congrArg (m * ·) e
        simp only [Int.mul_add, ← Int.mul_assoc] at this
        exact this
      omega
    have h4 := Int.emod_nonneg v (show m ≠ 0 by omega)
    have h5 := Int.emod_lt_of_pos v hp
    have h6 : 0 ≤ m * (v / m % 2) ∧ m * (v / m % 2) ≤ m := by
      rcases Int.emod_two_eq (v / m) with h | h <;> rw [h] <;> omega
    have h7 : (v % m + m * (v / m % 2)) % (m * 2) = v % m + m * (v / m % 2) := Int.emod_eq_of_lt (by omega) (by
      rcases Int.emod_two_eq (v / m) with h | h <;> rw [h] <;> omega)
    rw [← h7]
    conv => rhs; rw [h3]
    rw [Int.add_comm (m * 2 * _), Int.add_mul_emod_self_left]

theorem bitOf_valOf : ∀ (l : List Bool) (i : Nat), bitOf (valOf l) i = l.getD i false
  | [], i => by simp [valOf, bitOf]
  | b :: t, 0 => by
    cases b <;> simp [valOf, bi, bitOf] <;> omega
  | b :: t, i + 1 => by
    have h := bitOf_valOf t i
    have hb := bi_bd b
    rw [List.getD_cons_succ, ← h]
    have : (bi b + 2 * valOf t) / 2 ^ (i + 1) = valOf t / 2 ^ i := by
      rw [Int.pow_succ, Int.mul_comm (2 ^ i) 2, ← Int.ediv_ediv_of_nonneg (by decide)]
      congr 1
      omega
    simp [bitOf, valOf, this]
end Go.Proofs.Ytpbodonmiepilaa
/- huff: tables and decoding, plainly. No program in sight. -/
namespace Go.Proofs.Ytpbodonmiepilaa

/-- The symbols of a length, by their numbers. -/
def symsN (l : List Int) (n k : Nat) : List Nat := (List.range k).filter fun s => decide (l.getD s 0 = (n : Int))
def symsL (l : List Int) (n : Nat) : List Nat := symsN l n l.length
/-- A table's symbols, of lengths up to n. -/
def tsymsN (l : List Int) : Nat → List Nat
  | 0 => []
  | n + 1 => tsymsN l n ++ symsL l (n + 1)
def tsymsF (l : List Int) : List Nat := tsymsN l 15

section
variable {l : List Int}
theorem symsN_succ (n k : Nat) : symsN l n (k + 1) = if l.getD k 0 = (n : Int) then symsN l n k ++ [k] else symsN l n k := by
  unfold symsN
  rw [List.range_succ, List.filter_append]
  split
  · next h => rw [List.filter_cons, List.filter_nil, if_pos (decide_eq_true h)]
  · next h => rw [List.filter_cons, List.filter_nil, if_neg (by rw [decide_eq_false h]; simp), List.append_nil]
theorem symsN_length (n : Nat) : ∀ k, k ≤ l.length → (symsN l n k).length = cntL (l.take k) n := by
  intro k
  induction k with
  | zero => intro _; simp [symsN, cntL]
  | succ k ih =>
    intro h
    rw [symsN_succ, cntL_take_succ (by omega), ← ih (by omega)]
    split
    · rw [List.length_append]; rfl
    · rfl
theorem symsL_length (n : Nat) : (symsL l n).length = cntL l n := by
  unfold symsL
  rw [symsN_length n _ (Nat.le_refl _), List.take_length]
/-- Where a symbol stands. -/
theorem symsN_get (n : Nat) : ∀ k, k ≤ l.length → ∀ s, s < k → l.getD s 0 = (n : Int) → (symsN l n k)[cntL (l.take s) n]? = some s := by
  intro k
  induction k with
  | zero => intro _ s h; omega
  | succ k ih =>
    intro hk s hs hn
    rw [symsN_succ]
    rcases Nat.lt_or_ge s k with h | h
    · have h1 := ih (by omega) s h hn
      split
      · rw [List.getElem?_append_left (List.getElem?_eq_some_iff.1 h1).1]; exact h1
      · exact h1
    · have : s = k := by omega
      subst this
      rw [if_pos hn, ← symsN_length n s (by omega), List.getElem?_append_right (Nat.le_refl _)]
      simp
theorem symsN_mem (n k s : Nat) : s ∈ symsN l n k ↔ s < k ∧ l.getD s 0 = (n : Int) := by
  unfold symsN
  rw [List.mem_filter, List.mem_range]
  simp
theorem symsL_at {n s i : Nat} (h : (symsL l n)[i]? = some s) : s < l.length ∧ l.getD s 0 = (n : Int) ∧ cntL (l.take s) n = i := by
  have hm := (symsN_mem (l := l) n l.length s).1 (List.mem_of_getElem? h)
  refine ⟨hm.1, hm.2, ?_⟩
  have h2 := symsN_get n l.length (Nat.le_refl _) s hm.1 hm.2
  have hnd : (symsN l n l.length).Nodup := List.nodup_range.sublist List.filter_sublist
  have h3 : (symsN l n l.length)[i]? = (symsN l n l.length)[cntL (l.take s) n]? := h.trans h2.symm
  exact ((List.getElem?_inj (List.getElem?_eq_some_iff.1 h).1 hnd).1 h3).symm
/-- Which symbol has a code of a length. -/
theorem code_at {n s : Nat} {c : Int} (hn : 1 ≤ n) (hc : lowF l n ≤ c) : (s < l.length ∧ l.getD s 0 = (n : Int) ∧ codeF l s = c) ↔ (symsL l n)[(c - lowF l n).toNat]? = some s := by
  constructor
  · rintro ⟨h1, h2, h3⟩
    unfold codeF at h3
    rw [h2, if_pos (by omega), Int.toNat_natCast] at h3
    have := symsN_get n l.length (Nat.le_refl _) s h1 h2
    have e : (c - lowF l n).toNat = cntL (l.take s) n := by omega
    rw [e]
    exact this
  · intro h
    obtain ⟨h1, h2, h3⟩ := symsL_at h
    refine ⟨h1, h2, ?_⟩
    unfold codeF
    rw [h2, if_pos (by omega), Int.toNat_natCast, h3]
    omega
/-- How many symbols are shorter. -/
def atF (l : List Int) : Nat → Int
  | 0 => 0
  | n + 1 => atF l n + cntC l n
theorem tsymsN_length (n : Nat) : ((tsymsN l n).length : Int) = atF l (n + 1) := by
  induction n with
  | zero => simp [tsymsN, atF, cntC]
  | succ n ih =>
    rw [tsymsN, List.length_append, symsL_length, atF, ← ih]
    unfold cntC
    rw [if_neg (by omega)]
    omega
theorem tsymsN_get {n m i : Nat} (h : n < m) (hi : i < cntL l (n + 1)) : (tsymsN l m)[(tsymsN l n).length + i]? = (symsL l (n + 1))[i]? := by
  induction m with
  | zero => omega
  | succ m ih =>
    rw [tsymsN]
    rcases Nat.lt_or_ge n m with h1 | h1
    · have h2 := ih h1
      have h3 : (symsL l (n + 1))[i]? ≠ none := by
        rw [List.getElem?_eq_getElem (by rw [symsL_length]; exact hi)]; simp
      rw [List.getElem?_append_left, h2]
      rcases Nat.lt_or_ge ((tsymsN l n).length + i) (tsymsN l m).length with h4 | h4
      · exact h4
      · rw [List.getElem?_eq_none h4] at h2
        exact absurd h2.symm h3
    · have : n = m := by omega
      subst this
      rw [List.getElem?_append_right (by omega), Nat.add_sub_cancel_left]
theorem tsyms_lt {s : Nat} : ∀ n, s ∈ tsymsN l n → s < l.length := by
  intro n
  induction n with
  | zero => intro h; simp [tsymsN] at h
  | succ n ih =>
    intro h
    rw [tsymsN] at h
    rcases List.mem_append.1 h with h | h
    · exact ih h
    · exact ((symsN_mem _ _ _).1 h).1

/-- What is decoded: the symbol, the error, how many bits were read. -/
def decN (l : List Int) : Nat → Nat → Int → List Bool → Int × Int × Nat
  | 0, _, _, _ => (0, 2, 0)
  | _ + 1, _, _, [] => (0, 2, 0)
  | f + 1, n, c, b :: t => match (symsL l (n + 1))[(2 * c + bi b - lowF l (n + 1)).toNat]? with
    | some s => (s, 0, 1)
    | none => ((decN l f (n + 1) (2 * c + bi b) t).1, (decN l f (n + 1) (2 * c + bi b) t).2.1, (decN l f (n + 1) (2 * c + bi b) t).2.2 + 1)
def decF (l : List Int) (bs : List Bool) : Int × Int × Nat := decN l 15 0 0 bs
theorem decN_used (f : Nat) : ∀ n c bs, (decN l f n c bs).2.2 ≤ bs.length := by
  induction f with
  | zero => intro n c bs; simp [decN]
  | succ f ih =>
    intro n c bs
    cases bs with
    | nil => simp [decN]
    | cons b t =>
      rw [decN]
      split
      · simp
      · have := ih (n + 1) (2 * c + bi b) t
        simp only [List.length_cons]
        omega
end
end Go.Proofs.Ytpbodonmiepilaa
/- Laws on int's bit operations. No program in sight. -/
namespace Go.Proofs.Ytpbodonmiepilaa
open Go.RowKit

theorem i64_and_mask (n : Int) (k : Nat) (hk : k ≤ 62) : bits .and .i64 n ((2 ^ k - 1 : Nat) : Int) = n % ((2 ^ k : Nat) : Int) := by
  have hp : 2 ^ k ≤ 2 ^ 62 := Nat.pow_le_pow_right (by omega) hk
  have hp0 : 0 < 2 ^ k := Nat.pow_pos (by omega)
  have hm : (BitVec.ofInt 64 ((2 ^ k - 1 : Nat) : Int)).toNat = 2 ^ k - 1 := by
    rw [BitVec.toNat_ofInt]
    omega
  have hd : (2 ^ k : Nat) ∣ 2 ^ 64 := Nat.pow_dvd_pow 2 (by omega)
  have key : (BitVec.ofInt 64 n &&& BitVec.ofInt 64 ((2 ^ k - 1 : Nat) : Int)).toNat = (n % ((2 ^ 64 : Nat) : Int)).toNat % 2 ^ k := by
    rw [BitVec.toNat_and, hm, BitVec.toNat_ofInt, Nat.and_two_pow_sub_one_eq_mod]
  show IntKind.i64.wrap ((BitVec.ofInt 64 n &&& BitVec.ofInt 64 ((2 ^ k - 1 : Nat) : Int)).toNat : Nat) = _
  rw [key, IntKind.wrap_i64]
  have h1 : (((n % ((2 ^ 64 : Nat) : Int)).toNat % 2 ^ k : Nat) : Int) = n % ((2 ^ k : Nat) : Int) := by
    rw [Int.natCast_emod, Int.toNat_of_nonneg (Int.emod_nonneg _ (by omega))]
    exact Int.emod_emod_of_dvd n (Int.natCast_dvd_natCast.2 hd)
  rw [h1]
  have h2 := Int.emod_nonneg n (show ((2 ^ k : Nat) : Int) ≠ 0 by omega)
  have h3 := Int.emod_lt_of_pos n (show (0 : Int) < ((2 ^ k : Nat) : Int) by omega)
  omega
theorem i64_and63 (n : Int) : bits .and .i64 n 63 = n % 64 := i64_and_mask n 6 (by omega)
theorem i64_and1 (n : Int) : bits .and .i64 n 1 = n % 2 := i64_and_mask n 1 (by omega)

theorem or8_all : ∀ r : Fin 8, ∀ x : Fin 128, ∀ c : Fin 2, x.1 < 2 ^ r.1 → IntKind.u8.wrap ((BitVec.ofInt 8 (x.1 : Int) ||| BitVec.ofInt 8 (IntKind.u8.wrap (IntKind.i64.wrap ((c.1 : Int) * 2 ^ r.1)))).toNat : Int) = (x.1 : Int) + 2 ^ r.1 * (c.1 : Int) := by decide +kernel
/-- One bit more of a byte that has r. -/
theorem or8 {x c : Int} {r : Nat} (hr : r < 8) (hx0 : 0 ≤ x) (hx1 : x < 2 ^ r) (hc0 : 0 ≤ c) (hc1 : c ≤ 1) :
    bits .or .u8 x (IntKind.u8.wrap (IntKind.i64.wrap (c * 2 ^ r))) = x + 2 ^ r * c := by
  have h1 : (2 : Int) ^ r ≤ 128 := by
    have : ∀ r : Fin 8, (2 : Int) ^ r.1 ≤ 128 := by decide
    exact this ⟨r, hr⟩
  have hx2 : x.toNat < 2 ^ r := by
    have : ((2 ^ r : Nat) : Int) = 2 ^ r := Int.natCast_pow 2 r
    omega
  have := or8_all ⟨r, hr⟩ ⟨x.toNat, by omega⟩ ⟨c.toNat, by omega⟩ hx2
  simp only [Int.toNat_of_nonneg hx0, Int.toNat_of_nonneg hc0] at this
  exact this
theorem or8b_all : ∀ r : Fin 8, ∀ x : Fin 128, x.1 < 2 ^ r.1 → IntKind.u8.wrap ((BitVec.ofInt 8 (x.1 : Int) ||| BitVec.ofInt 8 (IntKind.u8.wrap (2 ^ r.1))).toNat : Int) = (x.1 : Int) + 2 ^ r.1 := by decide +kernel
theorem or8' {x : Int} {r : Nat} (hr : r < 8) (hx0 : 0 ≤ x) (hx1 : x < 2 ^ r) : bits .or .u8 x (IntKind.u8.wrap (2 ^ r)) = x + 2 ^ r := by
  have h1 : (2 : Int) ^ r ≤ 128 := by
    have : ∀ r : Fin 8, (2 : Int) ^ r.1 ≤ 128 := by decide
    exact this ⟨r, hr⟩
  have hx2 : x.toNat < 2 ^ r := by
    have : ((2 ^ r : Nat) : Int) = 2 ^ r := Int.natCast_pow 2 r
    omega
  have := or8b_all ⟨r, hr⟩ ⟨x.toNat, by omega⟩ hx2
  simp only [Int.toNat_of_nonneg hx0] at this
  exact this
end Go.Proofs.Ytpbodonmiepilaa
/- Laws on int's bit operations, more. No program in sight. -/
namespace Go.Proofs.Ytpbodonmiepilaa
open Go.RowKit

/-- One bit more of a number that has i. -/
theorem or64 {v c : Int} {i : Nat} (hi : i ≤ 61) (h0 : 0 ≤ v) (h1 : v < 2 ^ i) (hc0 : 0 ≤ c) (hc1 : c ≤ 1) : bits .or .i64 v (c * 2 ^ i) = v + 2 ^ i * c := by
  have hp : (2 : Int) ^ i ≤ 2305843009213693952 := by
    have h := Nat.pow_le_pow_right (show 0 < 2 by decide) hi
    have e : ((2 ^ i : Nat) : Int) = 2 ^ i := Int.natCast_pow 2 i
    have h2 : ((2 ^ i : Nat) : Int) ≤ ((2 ^ 61 : Nat) : Int) := Int.ofNat_le.2 h
    rw [e] at h2
    exact h2
  have hpn : ((2 ^ i : Nat) : Int) = 2 ^ i := Int.natCast_pow 2 i
  obtain ⟨a, rfl⟩ : ∃ a : Nat, v = a := ⟨v.toNat, by omega⟩
  have ha : a < 2 ^ i := by omega
  have hcc : c = 0 ∨ c = 1 := by omega
  have key : ∀ d : Nat, c = d → d ≤ 1 → IntKind.i64.wrap ((BitVec.ofInt 64 (a : Int) ||| BitVec.ofInt 64 (c * 2 ^ i)).toNat : Int) = a + 2 ^ i * c := by
    intro d hd hd1
    subst hd
    have e1 : ((d : Int) * 2 ^ i) = ((2 ^ i * d : Nat) : Int) := by rw [Int.natCast_mul, hpn, Int.mul_comm]
    have hb : 2 ^ i * d ≤ 2 ^ i := by
      have := Nat.mul_le_mul_left (2 ^ i) hd1
      simpa using this
    rw [e1, BitVec.ofInt_natCast, BitVec.ofInt_natCast, BitVec.toNat_or, BitVec.toNat_ofNat, BitVec.toNat_ofNat, Nat.mod_eq_of_lt (by omega), Nat.mod_eq_of_lt (by omega), Nat.or_comm, ← Nat.two_pow_add_eq_or_of_lt ha d]
    rw [IntKind.wrap_i64]
    have e2 : ((2 ^ i * d + a : Nat) : Int) = a + 2 ^ i * (d : Int) := by rw [Int.natCast_add, Int.natCast_mul, hpn]; omega
    rw [e2, ← hpn, ← Int.natCast_mul]
    omega
  rcases hcc with h | h
  · exact key 0 (by simpa using h) (by omega)
  · exact key 1 (by simpa using h) (by omega)
theorem u8_and1_all : ∀ x : Fin 256, bits .and .u8 (x.1 : Int) 1 = (x.1 : Int) % 2 := by decide +kernel
theorem u8_and1 {x : Int} (h0 : 0 ≤ x) (h1 : x < 256) : bits .and .u8 x 1 = x % 2 := by
  have := u8_and1_all ⟨x.toNat, by omega⟩
  simpa only [Int.toNat_of_nonneg h0] using this
end Go.Proofs.Ytpbodonmiepilaa
/- huff: plainly, what the walks tell (2). No program in sight. -/
namespace Go.Proofs.Ytpbodonmiepilaa
open Go.RowKit

def cresF (l : List Int) : List Int := if cerrF l = 0 then codesF l else []
theorem codes_take_succ {F : List Int} {s : Nat} (h : s < F.length) : (codesF F).take (s + 1) = (codesF F).take s ++ [codeF F s] := by
  rw [List.take_add_one, getD_get (by rw [codesF_length]; exact h), codesF_get h]
  rfl
theorem cerr_ok {l : List Int} (h : cerrF l = 0) : l.length ≤ 320 ∧ (∀ x ∈ l, 0 ≤ x ∧ x ≤ 15) ∧ sumF wtF l ≤ 2 ^ 15 := by
  unfold cerrF at h
  by_cases hm : mayF l = true
  · rw [if_pos hm] at h
    have := mayF_len hm
    refine ⟨this.1, this.2, ?_⟩
    by_cases hw : sumF wtF l ≤ 2 ^ 15
    · exact hw
    · rw [if_neg hw] at h; omega
  · rw [if_neg hm] at h; omega
/-- Which error New has. -/
def terrF (l : List Int) : Int := if mayF l then (if sumF wtF l = 32768 ∨ (usedF l).length = 0 ∨ (usedF l).length = 1 ∧ sumF wtF l = 16384 then 0 else 2) else 1
def natI (l : List Nat) : List Int := l.map Int.ofNat
def partT (F : List Int) (k j : Nat) : List Nat := tsymsN F k ++ symsN F (k + 1) j
def lenT (l : List Nat) : Nat := l.length
theorem used_count (F : List Int) : ∀ k, k ≤ F.length → (usedN F k).length = (F.take k).countP fun x => decide (0 < x) := by
  intro k
  induction k with
  | zero => intro _; simp [usedN]
  | succ k ih =>
    intro h
    rw [usedN, List.take_add_one, getD_get (by omega), List.countP_append, ← ih (by omega)]
    split
    · next h1 => rw [List.length_append]; simp [List.countP_cons]; simpa using h1
    · next h1 => simp [List.countP_cons]; simpa using h1
theorem at_count (l : List Int) (hl : ∀ x ∈ l, 0 ≤ x) : ∀ n : Nat, atF l n = ((l.countP fun x : Int => decide (0 < x ∧ x < (n : Int)) : Nat) : Int) := by
  intro n
  induction n with
  | zero =>
    rw [atF, List.countP_eq_zero.2 (fun x _ => by simp; omega)]; rfl
  | succ n ih =>
    rw [atF, ih]
    unfold cntC cntL
    clear ih
    induction l with
    | nil => simp
    | cons x t ih =>
      have h1 := ih fun y hy => hl y (by simp [hy])
      have h2 := hl x (by simp)
      rw [List.countP_cons, List.countP_cons, List.countP_cons]
      by_cases hn : n = 0
      · subst hn
        simp only [if_pos] at h1 ⊢
        have e1 : ¬ (0 < x ∧ x < ((0 : Nat) : Int)) := by omega
        have e2 : ¬ (0 < x ∧ x < ((0 + 1 : Nat) : Int)) := by omega
        simp only [e1, e2, decide_false, Bool.false_eq_true, if_false]
        omega
      · rw [if_neg hn] at h1 ⊢
        have d2 : ∀ (p : Prop) [Decidable p], p → (if decide p = true then 1 else 0) = 1 := fun p _ h => by simp [h]
        have d3 : ∀ (p : Prop) [Decidable p], ¬ p → (if decide p = true then 1 else 0) = 0 := fun p _ h => by simp [h]
        by_cases e1 : 0 < x ∧ x < (n : Int)
        · rw [d2 _ e1, d3 (x = (n : Int)) (by omega), d2 (0 < x ∧ x < ((n + 1 : Nat) : Int)) (by omega)]
          omega
        · by_cases e2 : x = (n : Int)
          · rw [d3 _ e1, d2 _ e2, d2 (0 < x ∧ x < ((n + 1 : Nat) : Int)) (by omega)]
            omega
          · rw [d3 _ e1, d3 _ e2, d3 (0 < x ∧ x < ((n + 1 : Nat) : Int)) (by omega)]
            omega
theorem tsyms_used {l : List Int} (hl : ∀ x ∈ l, 0 ≤ x ∧ x ≤ 15) : (tsymsF l).length = (usedF l).length := by
  have h1 := tsymsN_length (l := l) 15
  rw [at_count l (fun x hx => (hl x hx).1)] at h1
  have h2 : (usedF l).length = l.countP fun x => decide (0 < x) := by
    unfold usedF
    rw [used_count l _ (Nat.le_refl _), List.take_length]
  have h3 : (l.countP fun x => decide (0 < x ∧ x < ((15 + 1 : Nat) : Int))) = l.countP fun x => decide (0 < x) := by
    refine List.countP_congr fun x hx => ?_
    have := hl x hx
    simp; omega
  rw [h3] at h1
  show (tsymsN l 15).length = _
  omega
theorem tsyms_len_le {l : List Int} (hl : ∀ x ∈ l, 0 ≤ x) (k : Nat) : (tsymsN l k).length ≤ l.length := by
  have h1 := tsymsN_length (l := l) k
  rw [at_count l hl] at h1
  have := List.countP_le_length (p := fun x : Int => decide (0 < x ∧ x < ((k + 1 : Nat) : Int))) (l := l)
  omega
theorem natI_snoc (l : List Nat) (j : Nat) : nums (natI l) ++ [.int .i64 j] = nums (natI (l ++ [j])) := by simp [nums, natI]
theorem few_weight : ∀ l : List Int, (∀ x ∈ l, 0 ≤ x ∧ x ≤ 15) → ((l.countP fun x => decide (0 < x)) = 0 → sumF wtF l = 0 ∧ cntL l 1 = 0) ∧ ((l.countP fun x => decide (0 < x)) = 1 → sumF wtF l ≤ 16384 ∧ (sumF wtF l = 16384 ↔ cntL l 1 = 1))
  | [], _ => by simp [sumF, cntL]
  | x :: t, hl => by
    have ih := few_weight t fun y hy => hl y (by simp [hy])
    have hx := hl x (by simp)
    rw [sumF_cons]
    unfold cntL at ih ⊢
    rw [List.countP_cons, List.countP_cons]
    by_cases h0 : 0 < x
    · have e0 : decide (0 < x) = true := by simp [h0]
      rw [e0, if_pos rfl]
      refine ⟨fun h => by omega, fun h => ?_⟩
      have h1 := ih.1 (by omega)
      rw [h1.1, h1.2]
      have hw : wtF x = 2 ^ (15 - x.toNat) := by unfold wtF; rw [if_pos h0]
      by_cases hx1 : x = 1
      · subst hx1
        rw [hw]; simp
      · have e1 : decide (x = ((1 : Nat) : Int)) = false := by simp; exact hx1
        rw [e1]
        have h2 : (2 : Int) ^ (15 - x.toNat) ≤ 2 ^ 13 := by
          have : (2 : Nat) ^ (15 - x.toNat) ≤ 2 ^ 13 := Nat.pow_le_pow_right (by omega) (by omega)
          exact_mod_cast this
        rw [hw]
        generalize (2 : Int) ^ (15 - x.toNat) = p at *
        simp
        omega
    · have e0 : decide (0 < x) = false := by simp; omega
      have e1 : decide (x = ((1 : Nat) : Int)) = false := by simp; omega
      have hw : wtF x = 0 := by unfold wtF; rw [if_neg h0]
      rw [e0, e1, hw]
      simpa using ih
/-- A bit put behind. -/
theorem or_low {c b : Int} (h0 : 0 ≤ c) (h1 : c ≤ 1000000000) (hb0 : 0 ≤ b) (hb1 : b ≤ 1) : bits .or .i64 (2 * c) b = 2 * c + b := by
  obtain ⟨m, rfl⟩ : ∃ m : Nat, c = m := ⟨c.toNat, by omega⟩
  obtain ⟨k, rfl⟩ : ∃ k : Nat, b = k := ⟨b.toNat, by omega⟩
  have e : (2 : Int) * (m : Int) = ((2 * m : Nat) : Int) := by omega
  rw [e]
  have h4 : 2 * m ||| k = 2 * m + k := by
    have : k = 0 ∨ k = 1 := by omega
    rcases this with rfl | rfl
    · simp
    · have := Nat.two_pow_add_eq_or_of_lt (i := 1) (b := 1) (by omega) m
      simpa using this.symm
  have key : IntKind.i64.wrap ((BitVec.ofInt 64 ((2 * m : Nat) : Int) ||| BitVec.ofInt 64 (k : Int)).toNat : Int) = ((2 * m : Nat) : Int) + k := by
    rw [BitVec.ofInt_natCast, BitVec.ofInt_natCast, BitVec.toNat_or, BitVec.toNat_ofNat, BitVec.toNat_ofNat, Nat.mod_eq_of_lt (by omega), Nat.mod_eq_of_lt (by omega), h4, IntKind.wrap_i64]
    omega
  exact key
/-- What a table needs. -/
theorem table_ok {l : List Int} (h : terrF l = 0) : l.length ≤ 320 ∧ (∀ x ∈ l, 0 ≤ x ∧ x ≤ 15) ∧ sumF wtF l ≤ 2 ^ 15 := by
  unfold terrF at h
  by_cases hm : mayF l = true
  · rw [if_pos hm] at h
    have := mayF_len hm
    refine ⟨this.1, this.2, ?_⟩
    by_cases hc : sumF wtF l = 32768 ∨ (usedF l).length = 0 ∨ (usedF l).length = 1 ∧ sumF wtF l = 16384
    · rcases hc with h1 | h1 | h1
      · omega
      · have h2 := few_weight l this.2
        unfold usedF at h1
        rw [used_count l _ (Nat.le_refl _), List.take_length] at h1
        have := (h2.1 h1).1
        omega
      · omega
    · rw [if_neg hc] at h; omega
  · rw [if_neg hm] at h; omega
theorem low_le {l : List Int} (hall : ∀ x ∈ l, 0 ≤ x ∧ x ≤ 15) (hw : sumF wtF l ≤ 2 ^ 15) (n : Nat) (hn : n ≤ 16) : 0 ≤ lowF l n ∧ lowF l n ≤ 65536 := by
  refine ⟨lowF_nonneg l n, ?_⟩
  cases n with
  | zero => rw [lowF_zero]; omega
  | succ n =>
    rw [lowF_succ]
    have h1 := low_room hall hw n (by omega)
    obtain ⟨p, hp, h2, h3⟩ := pow_pos_nat n (by omega)
    rw [hp] at h1
    omega
theorem atF_le {l : List Int} (hall : ∀ x ∈ l, 0 ≤ x ∧ x ≤ 15) (n : Nat) : 0 ≤ atF l n ∧ atF l n ≤ l.length := by
  rw [at_count l fun x hx => (hall x hx).1]
  have := List.countP_le_length (p := fun x : Int => decide (0 < x ∧ x < (n : Int))) (l := l)
  omega
/-- What Lengths gives, if it gives. -/
structure LenOk (F : List Int) (L : Int) (R : List Int) : Prop where
  lim : 1 ≤ L ∧ L ≤ 15
  few : F.length ≤ 320
  freq : ∀ f ∈ F, 0 ≤ f ∧ f ≤ 4294967296
  used : (symsF F).length ≤ 2 ^ L.toNat
  res : R = lengthsF F L.toNat
theorem len_ok {F : List Int} {L : Int} (h : errF F L = 0) : LenOk F L (resF F L) := by
  have h0 := h
  unfold errF at h
  by_cases hb : badArg F L = true
  · rw [if_pos hb] at h; omega
  · rw [if_neg hb] at h
    by_cases hu : 2 ^ L.toNat < (usedF F).length
    · rw [if_pos hu] at h; omega
    · unfold badArg at hb
      simp only [Bool.or_eq_true, decide_eq_true_eq, not_or] at hb
      obtain ⟨⟨⟨h1, h2⟩, h3⟩, h4⟩ := hb
      refine ⟨by omega, by omega, fun f hf => ?_, by rw [syms_length]; omega, ?_⟩
      · unfold anyBad at h4
        rw [List.any_eq_true] at h4
        have : ¬ badF f = true := fun hb => h4 ⟨f, hf, hb⟩
        simp only [badF, decide_eq_true_eq] at this
        omega
      · unfold resF; rw [if_pos h0]
section
variable {F R : List Int} {L : Int} (h : LenOk F L R)
include h
theorem LenOk.lim' : 1 ≤ L.toNat ∧ L.toNat ≤ 15 := by have := h.lim; omega
theorem LenOk.nn : ∀ f ∈ F, 0 ≤ f := fun f hf => (h.freq f hf).1
theorem LenOk.len : R.length = F.length := by rw [h.res, lengthsF_length]
theorem LenOk.get (j : Nat) (hj : j < F.length) : 0 ≤ R.getD j 0 ∧ R.getD j 0 ≤ L ∧ (R.getD j 0 = 0 ↔ F.getD j 0 = 0) := by
  rw [h.res]
  have := lengthsF_range h.lim' h.used h.nn j hj
  have := h.lim
  omega
theorem LenOk.all : ∀ x ∈ R, 0 ≤ x ∧ x ≤ 15 := fun x hx => by
  obtain ⟨j, hj, rfl⟩ := List.getElem_of_mem hx
  have h1 := h.get j (by rw [← h.len]; exact hj)
  rw [List.getD_eq_getElem?_getD, List.getElem?_eq_getElem hj] at h1
  have := h.lim
  simp only [Option.getD_some] at h1
  omega
theorem LenOk.weight : sumF wtF R = if (usedF F).length < 2 then ((usedF F).length : Int) * 16384 else 32768 := by
  rw [h.res, lengthsF_weight h.lim' h.used, syms_length]
  split <;> omega
end
end Go.Proofs.Ytpbodonmiepilaa
/- huff: what is written by codes is read, plainly. No program in sight. -/
namespace Go.Proofs.Ytpbodonmiepilaa

/-- A symbol's code, as bits. -/
def cbits (l : List Int) (s : Nat) : List Bool := (bitsOf (codeF l s) (l.getD s 0).toNat).reverse
theorem cbits_length (l : List Int) (s : Nat) : (cbits l s).length = (l.getD s 0).toNat := by unfold cbits; rw [List.length_reverse, bitsOf_length]
theorem cbits_get {l : List Int} {s i : Nat} (h : i < (l.getD s 0).toNat) : (cbits l s)[i]? = some (bitOf (codeF l s) ((l.getD s 0).toNat - 1 - i)) := by
  unfold cbits
  rw [List.getElem?_reverse (by rw [bitsOf_length]; exact h), bitsOf_length]
  unfold bitsOf
  rw [List.getElem?_map, List.getElem?_range (by omega)]
  rfl
theorem mem_getD2 {F : List Int} {i : Nat} (h : i < F.length) : F.getD i 0 ∈ F := by
  rw [List.getD_eq_getElem?_getD, List.getElem?_eq_getElem h]
  exact List.getElem_mem _
section
variable {l : List Int}
/-- Of a code each bit but the last leads on, and the last to its symbol. -/
theorem dec_code {s : Nat} (hs : s < l.length) (h0 : 0 < l.getD s 0) (h15 : l.getD s 0 ≤ 15) (rest : List Bool) :
    ∀ d i, i + d = (l.getD s 0).toNat → 0 < d → decN l (15 - i) i (codeF l s / 2 ^ d) ((cbits l s).drop i ++ rest) = ((s : Int), 0, d) := by
  obtain ⟨m, hm⟩ : ∃ m : Nat, l.getD s 0 = m := ⟨(l.getD s 0).toNat, by omega⟩
  have hmt : (l.getD s 0).toNat = m := by omega
  rw [hmt]
  have hlo : lowF l m ≤ codeF l s := by unfold codeF; rw [if_pos h0, hmt]; omega
  intro d
  induction d with
  | zero => intro i _ h; omega
  | succ d ih =>
    intro i hi _
    have hib : i < (cbits l s).length := by rw [cbits_length, hmt]; omega
    have hdrop : (cbits l s).drop i = bitOf (codeF l s) d :: (cbits l s).drop (i + 1) := by
      have h1 := cbits_get (l := l) (s := s) (i := i) (by omega)
      rw [hmt, show m - 1 - i = d by omega] at h1
      obtain ⟨h2, h3⟩ := List.getElem?_eq_some_iff.1 h1
      rw [List.drop_eq_getElem_cons h2, h3]
    have hc : 2 * (codeF l s / 2 ^ (d + 1)) + bi (bitOf (codeF l s) d) = codeF l s / 2 ^ d := by
      rw [bi_bitOf, Int.pow_succ, ← Int.ediv_ediv_of_nonneg (Int.le_of_lt (Int.pow_pos (by omega)))]
      omega
    rw [hdrop, List.cons_append, show 15 - i = (15 - (i + 1)) + 1 by omega, decN, hc]
    by_cases hd : d = 0
    · subst hd
      have e : codeF l s / 2 ^ 0 = codeF l s := by simp
      rw [e]
      have him : i + 1 = m := by omega
      have hat := (code_at (l := l) (n := i + 1) (s := s) (c := codeF l s) (by omega) (by rw [him]; exact hlo)).1 ⟨hs, by rw [hm, him], rfl⟩
      rw [hat]
    · have hfar := low_far l (i + 1) (d - 1)
      rw [show i + 1 + 1 + (d - 1) = m by omega, show d - 1 + 1 = d by omega] at hfar
      have hge : lowF l (i + 1) + cntC l (i + 1) ≤ codeF l s / 2 ^ d := by
        rw [Int.le_ediv_iff_mul_le (Int.pow_pos (by omega)), Int.mul_comm]
        omega
      have hnone : (symsL l (i + 1))[(codeF l s / 2 ^ d - lowF l (i + 1)).toNat]? = none := by
        refine List.getElem?_eq_none ?_
        rw [symsL_length]
        have : cntC l (i + 1) = cntL l (i + 1) := by unfold cntC; rw [if_neg (by omega)]
        omega
      rw [hnone, ih (i + 1) (by omega) (by omega)]
theorem dec_one {s : Nat} (hall : ∀ x ∈ l, 0 ≤ x ∧ x ≤ 15) (hw : sumF wtF l ≤ 2 ^ 15) (hs : s < l.length) (h0 : 0 < l.getD s 0) (rest : List Bool) : decF l (cbits l s ++ rest) = ((s : Int), 0, (l.getD s 0).toNat) := by
  have h15 := (hall _ (mem_getD2 hs)).2
  have h := dec_code hs h0 h15 rest (l.getD s 0).toNat 0 (by omega) (by omega)
  have hf := code_fits hall hw hs h0
  have e : codeF l s / 2 ^ (l.getD s 0).toNat = 0 := Int.ediv_eq_zero_of_lt (code_nonneg s) hf
  rw [e] at h
  exact h
/-- Of frequencies' lengths there are codes, and a table. -/
theorem LenOk.cod {F R : List Int} {L : Int} (h : LenOk F L R) : cerrF R = 0 ∧ terrF R = 0 ∧ cresF R = codesF R := by
  have hmy : mayF R = true := by
    unfold mayF
    rw [h.len, decide_eq_true h.few, Bool.true_and, List.all_eq_true]
    intro x hx
    have := h.all x hx
    simp [okLen]; omega
  have hus : (usedF R).length = (usedF F).length := by
    have : ∀ k, k ≤ F.length → usedN R k = usedN F k := by
      intro k
      induction k with
      | zero => intro _; rfl
      | succ k ih =>
        intro hk
        rw [usedN, usedN, ih (by omega)]
        have h1 := h.get k (by omega)
        have h2 := getD_nonneg h.nn k
        by_cases hp : 0 < F.getD k 0
        · rw [if_pos hp, if_pos (by omega)]
        · rw [if_neg hp, if_neg (by omega)]
    unfold usedF
    rw [h.len, this _ (Nat.le_refl _)]
  have hw := h.weight
  have hc : cerrF R = 0 := by
    unfold cerrF
    rw [if_pos hmy, if_pos]
    rw [hw]
    split <;> omega
  refine ⟨hc, ?_, by unfold cresF; rw [if_pos hc]⟩
  unfold terrF
  rw [if_pos hmy, hus, if_pos]
  rw [hw]
  by_cases h2 : (usedF F).length < 2
  · rw [if_pos h2]; omega
  · rw [if_neg h2]; omega
/-- All that is written. -/
def allBits (l : List Int) (P : List Nat) : List Bool := P.flatMap (cbits l)
theorem allBits_snoc (P : List Nat) (s : Nat) : allBits l (P ++ [s]) = allBits l P ++ cbits l s := by simp [allBits]
theorem allBits_length (hall : ∀ x ∈ l, 0 ≤ x ∧ x ≤ 15) (P : List Nat) (hP : ∀ s ∈ P, s < l.length) : (allBits l P).length ≤ 15 * P.length := by
  induction P with
  | nil => simp [allBits]
  | cons s t ih =>
    have h1 := hall _ (mem_getD2 (hP s (by simp)))
    have h2 := ih fun x hx => hP x (by simp [hx])
    have e : allBits l (s :: t) = cbits l s ++ allBits l t := rfl
    rw [e, List.length_append, cbits_length, List.length_cons]
    omega
theorem allBits_drop (P : List Nat) (k s : Nat) (h : P[k]? = some s) : (allBits l P).drop (allBits l (P.take k)).length = cbits l s ++ allBits l (P.drop (k + 1)) ∧ allBits l (P.take (k + 1)) = allBits l (P.take k) ++ cbits l s := by
  obtain ⟨hk, hs⟩ := List.getElem?_eq_some_iff.1 h
  have e : P = P.take k ++ s :: P.drop (k + 1) := by
    have := List.drop_eq_getElem_cons hk
    rw [hs] at this
    rw [← this, List.take_append_drop]
  constructor
  · conv => lhs; rw [e]
    unfold allBits
    rw [List.flatMap_append, List.flatMap_cons]
    have hl : ((P.take k).flatMap (cbits l)).length = ((P.take k).flatMap (cbits l)).length := rfl
    have h2 : (List.take k (List.take k P ++ s :: List.drop (k + 1) P)) = P.take k := by
      rw [← e]
    rw [h2, List.drop_left]
  · rw [List.take_add_one, h]
    exact allBits_snoc _ _
end
end Go.Proofs.Ytpbodonmiepilaa
/- flate: symbols of lengths and distances, plainly. No program in sight. -/
namespace Go.Proofs.Ytpbodonmiepilaa

/-- How many bits more: the least e with n / 2^e below 2^(st+1). -/
def exN (st n : Nat) : Nat → Nat → Nat
  | 0, e => e
  | f + 1, e => if 2 ^ (st + 1) ≤ n / 2 ^ e then exN st n f (e + 1) else e
def exF (st n : Nat) : Nat := exN st n 64 0
def bandF (st n : Nat) : Nat × Nat × Nat := (exF st n * 2 ^ st + n / 2 ^ exF st n, exF st n, n % 2 ^ exF st n)
def lenSym (n : Nat) : Nat × Nat × Nat := if n = 258 then (285, 0, 0) else if n < 11 then (254 + n, 0, 0) else (257 + (bandF 2 (n - 3)).1, (bandF 2 (n - 3)).2)
def distSym (n : Nat) : Nat × Nat × Nat := if n < 5 then (n - 1, 0, 0) else bandF 1 (n - 1)
/-- The document's tables: the first number of each symbol, how many bits more. -/
def lensT : List (Nat × Nat) := [(3, 0), (4, 0), (5, 0), (6, 0), (7, 0), (8, 0), (9, 0), (10, 0), (11, 1), (13, 1), (15, 1), (17, 1), (19, 2), (23, 2), (27, 2), (31, 2), (35, 3), (43, 3), (51, 3), (59, 3), (67, 4), (83, 4), (99, 4), (115, 4), (131, 5), (163, 5), (195, 5), (227, 5), (258, 0)]
def distsT : List (Nat × Nat) := [(1, 0), (2, 0), (3, 0), (4, 0), (5, 1), (7, 1), (9, 2), (13, 2), (17, 3), (25, 3), (33, 4), (49, 4), (65, 5), (97, 5), (129, 6), (193, 6), (257, 7), (385, 7), (513, 8), (769, 8), (1025, 9), (1537, 9), (2049, 10), (3073, 10), (4097, 11), (6145, 11), (8193, 12), (12289, 12), (16385, 13), (24577, 13)]
/-- The last symbol whose first number is not above. -/
def findT (n : Nat) : List (Nat × Nat) → Nat → Nat × Nat × Nat → Nat × Nat × Nat
  | [], _, r => r
  | (a, k) :: t, i, r => findT n t (i + 1) (if a ≤ n then (i, k, n - a) else r)
def refLen (n : Nat) : Nat × Nat × Nat := findT n lensT 257 (257, 0, 0)
def refDist (n : Nat) : Nat × Nat × Nat := findT n distsT 0 (0, 0, 0)
theorem len_same : ∀ x : Fin 256, lenSym (x.1 + 3) = refLen (x.1 + 3) := by decide +kernel
/-- All of 2^d from a on. -/
def chk (p : Nat → Bool) : Nat → Nat → Bool
  | 0, a => p a
  | d + 1, a => chk p d a && chk p d (a + 2 ^ d)
theorem chk_all {p : Nat → Bool} : ∀ (d a : Nat), chk p d a = true → ∀ x, x < 2 ^ d → p (a + x) = true := by
  intro d
  induction d with
  | zero => intro a h x hx; have : x = 0 := by simpa using hx
            subst this; exact h
  | succ d ih =>
    intro a h x hx
    rw [chk, Bool.and_eq_true] at h
    rcases Nat.lt_or_ge x (2 ^ d) with h1 | h1
    · exact ih a h.1 x h1
    · have := ih (a + 2 ^ d) h.2 (x - 2 ^ d) (by rw [Nat.pow_succ] at hx; omega)
      rwa [show a + 2 ^ d + (x - 2 ^ d) = a + x by omega] at this
def distOk (x : Nat) : Bool := decide (distSym (x + 1) = refDist (x + 1))
theorem dist_chk0 : chk distOk 11 0 = true := by decide +kernel
theorem dist_chk1 : chk distOk 11 2048 = true := by decide +kernel
theorem dist_chk2 : chk distOk 11 4096 = true := by decide +kernel
theorem dist_chk3 : chk distOk 11 6144 = true := by decide +kernel
theorem dist_chk4 : chk distOk 11 8192 = true := by decide +kernel
theorem dist_chk5 : chk distOk 11 10240 = true := by decide +kernel
theorem dist_chk6 : chk distOk 11 12288 = true := by decide +kernel
theorem dist_chk7 : chk distOk 11 14336 = true := by decide +kernel
theorem dist_chk8 : chk distOk 11 16384 = true := by decide +kernel
theorem dist_chk9 : chk distOk 11 18432 = true := by decide +kernel
theorem dist_chk10 : chk distOk 11 20480 = true := by decide +kernel
theorem dist_chk11 : chk distOk 11 22528 = true := by decide +kernel
theorem dist_chk12 : chk distOk 11 24576 = true := by decide +kernel
theorem dist_chk13 : chk distOk 11 26624 = true := by decide +kernel
theorem dist_chk14 : chk distOk 11 28672 = true := by decide +kernel
theorem dist_chk15 : chk distOk 11 30720 = true := by decide +kernel
theorem dist_same (x : Nat) (h : x < 32768) : distSym (x + 1) = refDist (x + 1) := by
  have key : ∀ k, k < 16 → chk distOk 11 (2048 * k) = true := by
    intro k hk
    match k, hk with
    | 0, _ => exact dist_chk0
    | 1, _ => exact dist_chk1
    | 2, _ => exact dist_chk2
    | 3, _ => exact dist_chk3
    | 4, _ => exact dist_chk4
    | 5, _ => exact dist_chk5
    | 6, _ => exact dist_chk6
    | 7, _ => exact dist_chk7
    | 8, _ => exact dist_chk8
    | 9, _ => exact dist_chk9
    | 10, _ => exact dist_chk10
    | 11, _ => exact dist_chk11
    | 12, _ => exact dist_chk12
    | 13, _ => exact dist_chk13
    | 14, _ => exact dist_chk14
    | 15, _ => exact dist_chk15
    | n + 16, h => exact absurd h (by omega)
  have := chk_all 11 (2048 * (x / 2048)) (key _ (by omega)) (x % 2048) (by omega)
  rw [show 2048 * (x / 2048) + x % 2048 = x by omega] at this
  exact of_decide_eq_true this
theorem len_same' (n : Nat) (h : 3 ≤ n ∧ n ≤ 258) : lenSym n = refLen n := by
  have := len_same ⟨n - 3, by omega⟩
  simpa [show n - 3 + 3 = n by omega] using this
theorem dist_same' (n : Nat) (h : 1 ≤ n ∧ n ≤ 32768) : distSym n = refDist n := by
  have := dist_same (n - 1) (by omega)
  rwa [show n - 1 + 1 = n by omega] at this
end Go.Proofs.Ytpbodonmiepilaa
/- lz: what stands in a text already. No program in sight. -/
namespace Go.Proofs.Ytpbodonmiepilaa

/-- The i-th byte. -/
def byt (s : ByteArray) (i : Nat) : UInt8 := s.data.getD i 0
/-- How many bytes at two places are the same, at most so many. -/
def commN (s : ByteArray) : Nat → Nat → Nat → Nat
  | 0, _, _ => 0
  | f + 1, a, b => if b < s.size ∧ byt s a = byt s b then commN s f (a + 1) (b + 1) + 1 else 0
def comm (s : ByteArray) (a b : Nat) : Nat := commN s 258 a b
theorem commN_le (s : ByteArray) : ∀ f a b, commN s f a b ≤ f := by
  intro f
  induction f with
  | zero => intro a b; exact Nat.le_refl _
  | succ f ih =>
    intro a b
    unfold commN
    split
    · have := ih (a + 1) (b + 1); omega
    · omega
/-- It is known by what it is. -/
theorem commN_is (s : ByteArray) : ∀ f a b n, n ≤ f → (∀ j, j < n → b + j < s.size ∧ byt s (a + j) = byt s (b + j)) → (n = f ∨ ¬ (b + n < s.size ∧ byt s (a + n) = byt s (b + n))) → commN s f a b = n := by
  intro f
  induction f with
  | zero => intro a b n hn _ _; unfold commN; omega
  | succ f ih =>
    intro a b n hn h1 h2
    cases n with
    | zero =>
      unfold commN
      rw [if_neg (by rcases h2 with h | h; exact absurd h (by omega); simpa using h)]
    | succ n =>
      have h0 := h1 0 (by omega)
      unfold commN
      rw [if_pos (by simpa using h0), ih (a + 1) (b + 1) n (by omega) (fun j hj => ?_) ?_]
      · rcases h2 with h | h
        · exact .inl (by omega)
        · right
          rw [show a + 1 + n = a + (n + 1) by omega, show b + 1 + n = b + (n + 1) by omega]
          exact h
      · have := h1 (j + 1) (by omega)
        rw [show a + 1 + j = a + (j + 1) by omega, show b + 1 + j = b + (j + 1) by omega]
        exact this
theorem comm_is {s : ByteArray} {a b n : Nat} (hn : n ≤ 258) (h1 : ∀ j, j < n → b + j < s.size ∧ byt s (a + j) = byt s (b + j)) (h2 : n = 258 ∨ ¬ (b + n < s.size ∧ byt s (a + n) = byt s (b + n))) : comm s a b = n := commN_is s 258 a b n hn h1 h2
theorem commN_get (s : ByteArray) : ∀ f a b j, j < commN s f a b → b + j < s.size ∧ byt s (a + j) = byt s (b + j) := by
  intro f
  induction f with
  | zero => intro a b j hj; unfold commN at hj; omega
  | succ f ih =>
    intro a b j hj
    unfold commN at hj
    split at hj
    · next h =>
      cases j with
      | zero => simpa using h
      | succ j =>
        have := ih (a + 1) (b + 1) j (by omega)
        rw [show a + 1 + j = a + (j + 1) by omega, show b + 1 + j = b + (j + 1) by omega] at this
        exact this
    · omega
theorem comm_get {s : ByteArray} {a b j : Nat} (h : j < comm s a b) : b + j < s.size ∧ byt s (a + j) = byt s (b + j) := commN_get s 258 a b j h
theorem comm_le (s : ByteArray) (a b : Nat) : comm s a b ≤ 258 := commN_le s 258 a b

/-- The three bytes at a place. -/
def key3 (s : ByteArray) (i : Nat) : UInt8 × UInt8 × UInt8 := (byt s i, byt s (i + 1), byt s (i + 2))
theorem comm3 {s : ByteArray} {a b : Nat} (h : key3 s a = key3 s b) (hb : b + 3 ≤ s.size) : 3 ≤ comm s a b := by
  simp only [key3, Prod.mk.injEq] at h
  obtain ⟨h0, h1, h2⟩ := h
  unfold comm
  rw [show (258 : Nat) = 255 + 3 by rfl]
  unfold commN
  rw [if_pos ⟨by omega, h0⟩]
  unfold commN
  rw [if_pos ⟨by omega, h1⟩]
  unfold commN
  rw [if_pos ⟨by omega, h2⟩]
  omega
theorem comm3' {s : ByteArray} {a b : Nat} (h : 3 ≤ comm s a b) : key3 s a = key3 s b ∧ b + 3 ≤ s.size := by
  have h0 := comm_get (j := 0) (Nat.lt_of_lt_of_le (by omega) h)
  have h1 := comm_get (j := 1) (Nat.lt_of_lt_of_le (by omega) h)
  have h2 := comm_get (j := 2) (Nat.lt_of_lt_of_le (by omega) h)
  simp only [Nat.add_zero] at h0
  exact ⟨by simp [key3, h0.2, h1.2, h2.2], by omega⟩

/-- The latest place ahead of the n-th where three bytes stand, and one more; 0: there is none. -/
def prev (s : ByteArray) (k : UInt8 × UInt8 × UInt8) : Nat → Nat
  | 0 => 0
  | n + 1 => if n + 3 ≤ s.size ∧ key3 s n = k then n + 1 else prev s k n
theorem prev_le (s : ByteArray) (k : UInt8 × UInt8 × UInt8) : ∀ n, prev s k n ≤ n := by
  intro n
  induction n with
  | zero => exact Nat.le_refl _
  | succ n ih => unfold prev; split <;> omega
theorem prev_key {s : ByteArray} {k : UInt8 × UInt8 × UInt8} : ∀ n, 0 < prev s k n → key3 s (prev s k n - 1) = k ∧ prev s k n - 1 + 3 ≤ s.size := by
  intro n
  induction n with
  | zero => intro h; unfold prev at h; omega
  | succ n ih =>
    intro h
    unfold prev at h ⊢
    split
    · next h1 => exact ⟨by simpa using h1.2, by simpa using h1.1⟩
    · next h1 => rw [if_neg h1] at h; exact ih h
theorem prev_none {s : ByteArray} {k : UInt8 × UInt8 × UInt8} : ∀ n q, prev s k n ≤ q → q < n → ¬ (q + 3 ≤ s.size ∧ key3 s q = k) := by
  intro n
  induction n with
  | zero => intro q _ h; omega
  | succ n ih =>
    intro q h1 h2
    unfold prev at h1
    split at h1
    · omega
    · next h =>
      by_cases hq : q = n
      · subst hq; exact h
      · exact ih q h1 (by omega)

/-- The longest, and how far back it is, of those up to so far back; the nearest of these. -/
def best (s : ByteArray) (at_ : Nat) : Nat → Nat × Nat
  | 0 => (0, 0)
  | d + 1 => if (best s at_ d).1 < comm s (at_ - (d + 1)) at_ then (comm s (at_ - (d + 1)) at_, d + 1) else best s at_ d
/-- What is long enough. -/
def trim (p : Nat × Nat) : Nat × Nat := if 3 ≤ p.1 then p else (0, 0)
theorem trim_skip {s : ByteArray} {at_ d : Nat} (h : comm s (at_ - (d + 1)) at_ < 3) : trim (best s at_ (d + 1)) = trim (best s at_ d) := by
  have e2 : best s at_ (d + 1) = if (best s at_ d).1 < comm s (at_ - (d + 1)) at_ then (comm s (at_ - (d + 1)) at_, d + 1) else best s at_ d := by rw [best]
  rw [e2]
  split
  · next h1 =>
    unfold trim
    rw [if_neg (by simp only; omega), if_neg (by omega)]
  · rfl
theorem trim_hit {s : ByteArray} {at_ d : Nat} (h : 3 ≤ comm s (at_ - (d + 1)) at_) :
    trim (best s at_ (d + 1)) = if (trim (best s at_ d)).1 < comm s (at_ - (d + 1)) at_ then (comm s (at_ - (d + 1)) at_, d + 1) else trim (best s at_ d) := by
  by_cases hl : 3 ≤ (best s at_ d).1
  · have e : trim (best s at_ d) = best s at_ d := by unfold trim; rw [if_pos hl]
    rw [e]
    have e2 : best s at_ (d + 1) = if (best s at_ d).1 < comm s (at_ - (d + 1)) at_ then (comm s (at_ - (d + 1)) at_, d + 1) else best s at_ d := by rw [best]
    rw [e2]
    split
    · unfold trim; rw [if_pos h]
    · unfold trim; rw [if_pos hl]
  · have e : trim (best s at_ d) = (0, 0) := by unfold trim; rw [if_neg hl]
    rw [e, if_pos (by simp only; omega)]
    have e2 : best s at_ (d + 1) = (comm s (at_ - (d + 1)) at_, d + 1) := by rw [best, if_pos (by omega)]
    rw [e2]
    unfold trim; rw [if_pos h]
/-- From one place to a place ahead, where nothing that is long enough stands between. -/
theorem trim_skips {s : ByteArray} {at_ d : Nat} : ∀ e, (∀ q, d ≤ q → q < e → comm s (at_ - (q + 1)) at_ < 3) → d ≤ e → trim (best s at_ e) = trim (best s at_ d) := by
  intro e
  induction e with
  | zero => intro _ h; have : d = 0 := by omega
            rw [this]
  | succ e ih =>
    intro h hle
    by_cases hd : d = e + 1
    · rw [hd]
    · rw [trim_skip (h e (by omega) (by omega)), ih (fun q h1 h2 => h q h1 (by omega)) (by omega)]
/-- What has been looked at, when the next one to look at is p - 1. -/
def seen (s : ByteArray) (at_ p : Nat) : Nat × Nat := trim (best s at_ (min (at_ - p) 4096))
theorem seen_skip {s : ByteArray} {at_ m : Nat} (hm : m ≤ at_) : seen s at_ (prev s (key3 s at_) m) = seen s at_ m := by
  unfold seen
  have hp := prev_le s (key3 s at_) m
  refine trim_skips _ (fun q h1 h2 => ?_) (by omega)
  rcases Nat.lt_or_ge (comm s (at_ - (q + 1)) at_) 3 with h | h
  · exact h
  · exfalso
    obtain ⟨hk, hsz⟩ := comm3' h
    exact prev_none m (at_ - (q + 1)) (by omega) (by omega) ⟨by omega, hk⟩
theorem seen_start (s : ByteArray) (at_ : Nat) : seen s at_ at_ = (0, 0) := by
  unfold seen
  rw [Nat.sub_self]
  rfl
theorem seen_hit {s : ByteArray} {at_ p : Nat} (hp : 0 < p) (hpa : p ≤ at_) (hw : at_ - (p - 1) ≤ 4096) (hk : key3 s (p - 1) = key3 s at_) (ha : at_ + 3 ≤ s.size) :
    seen s at_ (p - 1) = if (seen s at_ p).1 < comm s (p - 1) at_ then (comm s (p - 1) at_, at_ - (p - 1)) else seen s at_ p := by
  have h3 := comm3 hk ha
  unfold seen
  rw [show min (at_ - (p - 1)) 4096 = (at_ - p) + 1 by omega, show min (at_ - p) 4096 = at_ - p by omega]
  have e : at_ - (at_ - p + 1) = p - 1 := by omega
  rw [trim_hit (by rw [e]; exact h3), e, show at_ - p + 1 = at_ - (p - 1) by omega]
/-- What is found at a place. -/
def found (s : ByteArray) (at_ : Nat) : Nat × Nat := trim (best s at_ (min at_ 4096))
theorem seen_end {s : ByteArray} {at_ p : Nat} (hpa : p ≤ at_) (h : p = 0 ∨ 4096 < at_ - (p - 1)) : seen s at_ p = found s at_ := by
  unfold seen found
  rcases h with h | h
  · subst h; rfl
  · rw [show min (at_ - p) 4096 = min at_ 4096 by omega]
theorem found_none {s : ByteArray} {at_ : Nat} (h : s.size < at_ + 3) : found s at_ = (0, 0) := by
  unfold found
  rw [trim_skips (d := 0) _ (fun q _ _ => ?_) (by omega)]
  · rfl
  · rcases Nat.lt_or_ge (comm s (at_ - (q + 1)) at_) 3 with h1 | h1
    · exact h1
    · have := (comm3' h1).2; omega
theorem best_far (s : ByteArray) (at_ : Nat) : ∀ d, (best s at_ d).2 ≤ d ∧ (0 < (best s at_ d).1 → 1 ≤ (best s at_ d).2 ∧ (best s at_ d).1 = comm s (at_ - (best s at_ d).2) at_) ∧ (best s at_ d).1 ≤ 258 := by
  intro d
  induction d with
  | zero => simp [best]
  | succ d ih =>
    rw [best]
    split
    · exact ⟨Nat.le_refl _, fun _ => ⟨by simp, rfl⟩, comm_le ..⟩
    · exact ⟨by omega, ih.2.1, ih.2.2⟩
end Go.Proofs.Ytpbodonmiepilaa
/- lz: a text's tokens, plainly. -/
namespace Go.Proofs.Ytpbodonmiepilaa

structure Tok where
  len : Int
  dist : Int
  lit : Int
deriving DecidableEq
def tcell (t : Tok) : List Value := [.int .i64 t.len, .int .i64 t.dist, .int .i64 t.lit]
def tval (t : Tok) : Value := .agg #[.int .i64 t.len, .int .i64 t.dist, .int .i64 t.lit]
theorem tcell_length (t : Tok) : (tcell t).length = 3 := rfl
theorem tcell_one (t : Tok) : ∀ u ∈ tcell t, u.oneCell' = true := by intro u hu; simp [tcell] at hu; rcases hu with rfl | rfl | rfl <;> rfl
/-- The token at a place. -/
def tokAt (s : ByteArray) (i : Nat) : Tok := if 3 ≤ (found s i).1 then ⟨(found s i).1, (found s i).2, 0⟩ else ⟨0, 0, (byt s i).toNat⟩
def stepAt (s : ByteArray) (i : Nat) : Nat := if 3 ≤ (found s i).1 then (found s i).1 else 1
/-- The tokens from a place on. -/
def parseN (s : ByteArray) : Nat → Nat → List Tok
  | 0, _ => []
  | f + 1, i => if i < s.size then tokAt s i :: parseN s f (i + stepAt s i) else []
def parse (s : ByteArray) : List Tok := parseN s s.size 0
theorem parseN_end {s : ByteArray} {f i : Nat} (h : s.size ≤ i) : parseN s f i = [] := by
  cases f with
  | zero => rfl
  | succ f => rw [parseN, if_neg (by omega)]
theorem found_is (s : ByteArray) (i : Nat) : found s i = best s i (min i 4096) ∧ 3 ≤ (found s i).1 ∨ found s i = (0, 0) := by
  unfold found trim
  split
  · next h => exact .inl ⟨rfl, h⟩
  · exact .inr rfl
theorem found_comm {s : ByteArray} {i : Nat} (h : 3 ≤ (found s i).1) : 1 ≤ (found s i).2 ∧ (found s i).2 ≤ i ∧ (found s i).2 ≤ 4096 ∧ (found s i).1 ≤ 258 ∧ (found s i).1 = comm s (i - (found s i).2) i := by
  rcases found_is s i with ⟨he, _⟩ | he
  · rw [he] at h ⊢
    have hb := best_far s i (min i 4096)
    have h2 := hb.2.1 (by omega)
    exact ⟨h2.1, by omega, by omega, hb.2.2, h2.2⟩
  · rw [he] at h; simp at h
theorem found_le {s : ByteArray} {i : Nat} (h : 3 ≤ (found s i).1) : i + (found s i).1 ≤ s.size := by
  have hc := (found_comm h).2.2.2.2
  have := comm_get (s := s) (a := i - (found s i).2) (b := i) (j := (found s i).1 - 1) (by omega)
  omega
theorem stepAt_pos (s : ByteArray) (i : Nat) : 1 ≤ stepAt s i := by unfold stepAt; split <;> omega
theorem stepAt_le {s : ByteArray} {i : Nat} (hi : i < s.size) : i + stepAt s i ≤ s.size := by
  unfold stepAt
  split
  · next h => exact found_le h
  · omega
theorem parseN_more {s : ByteArray} : ∀ {f f' i : Nat}, s.size ≤ i + f → f ≤ f' → parseN s f' i = parseN s f i := by
  intro f
  induction f with
  | zero => intro f' i h _; rw [parseN_end (by omega)]; rfl
  | succ f ih =>
    intro f' i h hf
    obtain ⟨f', rfl⟩ : ∃ g, f' = g + 1 := ⟨f' - 1, by omega⟩
    rw [parseN, parseN]
    split
    · have := stepAt_pos s i
      rw [ih (by omega) (by omega)]
    · rfl
theorem parseN_length (s : ByteArray) : ∀ f i, i ≤ s.size → (parseN s f i).length ≤ s.size - i := by
  intro f
  induction f with
  | zero => intro i _; simp [parseN]
  | succ f ih =>
    intro i h
    rw [parseN]
    split
    · next hi =>
      have h1 := ih _ (stepAt_le hi)
      have h2 := stepAt_pos s i
      simp only [List.length_cons]
      omega
    · simp
theorem parse_length (s : ByteArray) : (parse s).length ≤ s.size := by
  have := parseN_length s s.size 0 (by omega)
  unfold parse
  omega
end Go.Proofs.Ytpbodonmiepilaa
/- lz: the text of tokens, plainly. -/
namespace Go.Proofs.Ytpbodonmiepilaa

/-- May a token stand behind so many bytes? -/
def may (t : Tok) (n : Nat) : Bool :=
  if t.len = 0 then decide (t.dist = 0 ∧ 0 ≤ t.lit ∧ t.lit < 256) else decide (t.lit = 0 ∧ 3 ≤ t.len ∧ t.len ≤ 258 ∧ 1 ≤ t.dist ∧ t.dist ≤ 32768 ∧ t.dist ≤ n)
/-- So many bytes more, each as the one so far back. -/
def copyN (d : Nat) (out : List Int) : Nat → List Int
  | 0 => out
  | k + 1 => copyN d out k ++ [(copyN d out k).getD ((copyN d out k).length - d) 0]
theorem copyN_length (d : Nat) (out : List Int) : ∀ k, (copyN d out k).length = out.length + k := by
  intro k
  induction k with
  | zero => rfl
  | succ k ih => rw [copyN, List.length_append, ih]; simp; omega
inductive Res where
  | err (e : Nat)
  | ok (out : List Int)
/-- The text of tokens, behind some bytes. -/
def exp (most : Int) : List Tok → List Int → Res
  | [], out => .ok out
  | t :: l, out =>
    if may t out.length = false then .err 2
    else if IntKind.i64.wrap (most - out.length) < max t.len 1 then .err 12
    else if t.len = 0 then exp most l (out ++ [t.lit])
    else exp most l (copyN t.dist.toNat out t.len.toNat)
end Go.Proofs.Ytpbodonmiepilaa
/- inflate: unpacking, plainly. No program in sight. -/
namespace Go.Proofs.Ytpbodonmiepilaa

/-- What a part of unpacking yields: a value, and where the next bit stands; the bits ran out; a fault. -/
inductive Got (α : Type) where
  | ok (v : α) (n : Nat)
  | ran
  | bad (e : Int)
def Got.bind {α β : Type} (g : Got α) (f : α → Nat → Got β) : Got β := match g with
  | .ok v n => f v n
  | .ran => .ran
  | .bad e => .bad e
theorem Got.bind_ok {α β : Type} (v : α) (n : Nat) (f : α → Nat → Got β) : (Got.ok v n).bind f = f v n := rfl
theorem Got.bind_ran {α β : Type} (f : α → Nat → Got β) : (Got.ran : Got α).bind f = .ran := rfl
theorem Got.bind_bad {α β : Type} (e : Int) (f : α → Nat → Got β) : (Got.bad e : Got α).bind f = .bad e := rfl
theorem Got.bind_inv {α β : Type} {g : Got α} {f : α → Nat → Got β} {w : β} {m : Nat} (h : g.bind f = .ok w m) : ∃ v n, g = .ok v n ∧ f v n = .ok w m := by
  cases g with
  | ok v n => exact ⟨v, n, rfl, h⟩
  | ran => cases h
  | bad e => cases h

def takeG (bs : List Bool) (k n : Nat) : Got Int := if n + k ≤ bs.length then .ok (valOf ((bs.drop n).take k)) (n + k) else .ran
def symG (bs : List Bool) (L : List Int) (n : Nat) : Got Int :=
  if (decF L (bs.drop n)).2.1 = 0 then .ok (decF L (bs.drop n)).1 (n + (decF L (bs.drop n)).2.2)
  else if (decF L (bs.drop n)).2.2 < 15 then .ran else .bad 2
/-- A block of bytes. -/
def bytesAt (bs : List Bool) (n k : Nat) : List Int := bytesOf ((bs.drop n).take (8 * k))
def storedG (bs : List Bool) (most : Int) (out : List Int) (n0 : Nat) : Got (List Int) :=
  (takeG bs 16 (8 * nbytes n0)).bind fun a n1 => (takeG bs 16 n1).bind fun b n2 =>
    if a + b = 65535 then
      (if n2 + 8 * a.toNat ≤ bs.length then (if most - out.length < a then .bad 12 else .ok (out ++ bytesAt bs n2 a.toNat) (n2 + 8 * a.toNat)) else .ran)
    else .bad 2
/-- Lengths of lengths' codes, as they stand; as they are meant. -/
def lensG (bs : List Bool) : Nat → List Int → Nat → Got (List Int)
  | 0, xs, n => .ok xs n
  | k + 1, xs, n => (takeG bs 3 n).bind fun v n1 => lensG bs k (xs ++ [v]) n1
def ordN (i : Nat) : Nat := [16, 17, 18, 0, 8, 7, 9, 6, 10, 5, 11, 4, 12, 3, 13, 2, 14, 1, 15].getD i 0
def unordN (xs : List Int) : Nat → List Int
  | 0 => zerosF 19
  | k + 1 => (unordN xs k).set (ordN k) (xs.getD k 0)
def unordF (xs : List Int) : List Int := unordN xs 19
/-- Lengths of codes, up to N. -/
def lengthsG (bs : List Bool) (T : List Int) (N : Nat) (l : List Int) (n : Nat) : Got (List Int) :=
  if h : N ≤ l.length then .ok l n
  else (symG bs T n).bind fun c n1 =>
    if c < 16 then lengthsG bs T N (l ++ [c]) n1
    else if c = 16 then
      (if l.length = 0 then .bad 2
       else (takeG bs 2 n1).bind fun v n2 => if N < l.length + (3 + v.toNat) then .bad 2 else lengthsG bs T N (l ++ List.replicate (3 + v.toNat) (l.getD (l.length - 1) 0)) n2)
    else if c = 17 then (takeG bs 3 n1).bind fun v n2 => if N < l.length + (3 + v.toNat) then .bad 2 else lengthsG bs T N (l ++ List.replicate (3 + v.toNat) 0) n2
    else (takeG bs 7 n1).bind fun v n2 => if N < l.length + (11 + v.toNat) then .bad 2 else lengthsG bs T N (l ++ List.replicate (11 + v.toNat) 0) n2
termination_by N - l.length
decreasing_by all_goals (simp only [List.length_append, List.length_cons, List.length_nil, List.length_replicate]; omega)
/-- Both codes of a block that tells them. -/
def codesG (bs : List Bool) (n0 : Nat) : Got (List Int × List Int) :=
  (takeG bs 5 n0).bind fun a n1 => (takeG bs 5 n1).bind fun b n2 => (takeG bs 4 n2).bind fun c n3 =>
    if 29 < a ∨ 29 < b then .bad 2
    else (lensG bs (4 + c.toNat) [] n3).bind fun xs n4 =>
      if terrF (unordF xs) = 0 then
        (lengthsG bs (unordF xs) (257 + a.toNat + (1 + b.toNat)) [] n4).bind fun l n5 =>
          if l.getD 256 0 ≠ 0 ∧ terrF (l.take (257 + a.toNat)) = 0 ∧ terrF (l.drop (257 + a.toNat)) = 0 then .ok (l.take (257 + a.toNat), l.drop (257 + a.toNat)) n5 else .bad 2
      else .bad 2
def lenT0 (c : Nat) : Nat × Nat := lensT.getD (c - 257) (0, 0)
def distT0 (c : Nat) : Nat × Nat := distsT.getD c (0, 0)
/-- A token, or a block's end. -/
def tokG (bs : List Bool) (most : Int) (L D : List Int) (out : List Int) (n0 : Nat) : Got (Option (List Int)) :=
  (symG bs L n0).bind fun c n1 =>
    if c = 256 then .ok none n1
    else if c < 256 then (if most - out.length < 1 then .bad 12 else .ok (some (out ++ [c])) n1)
    else if 285 < c then .bad 2
    else (takeG bs (lenT0 c.toNat).2 n1).bind fun v n2 => (symG bs D n2).bind fun k n3 =>
      if 29 < k then .bad 2
      else (takeG bs (distT0 k.toNat).2 n3).bind fun u n4 =>
        if (out.length : Int) < (distT0 k.toNat).1 + u then .bad 2
        else if most - out.length < (lenT0 c.toNat).1 + v then .bad 12
        else .ok (some (copyN ((distT0 k.toNat).1 + u.toNat) out ((lenT0 c.toNat).1 + v.toNat))) n4

/-- Where unpacking stands: the next bit, what there is, the codes of the block it is in, whether that is the last. -/
structure Inf where
  n : Nat
  out : List Int
  tab : Option (List Int × List Int)
  last : Bool
def fixTab : List Int × List Int := (List.replicate 144 8 ++ List.replicate 112 9 ++ List.replicate 24 7 ++ List.replicate 8 8, List.replicate 32 5)
def headG (bs : List Bool) (most : Int) (st : Inf) : Got Inf :=
  (takeG bs 1 st.n).bind fun a n1 => (takeG bs 2 n1).bind fun k n2 =>
    if k = 0 then (storedG bs most st.out n2).bind fun o n3 => .ok ⟨n3, o, none, decide (a = 1)⟩ n3
    else if k = 1 then .ok ⟨n2, st.out, some fixTab, decide (a = 1)⟩ n2
    else if k = 2 then (codesG bs n2).bind fun t n3 => .ok ⟨n3, st.out, some t, decide (a = 1)⟩ n3
    else .bad 2
def stepG (bs : List Bool) (most : Int) (st : Inf) : Got Inf := match st.tab with
  | none => headG bs most st
  | some t => (tokG bs most t.1 t.2 st.out st.n).bind fun r n1 => match r with
    | none => .ok ⟨n1, st.out, none, st.last⟩ n1
    | some o => .ok ⟨n1, o, some t, st.last⟩ n1
def Inf.done (st : Inf) : Bool := st.last && st.tab.isNone
def Inf.init : Inf := ⟨0, [], none, false⟩
/-- The end: what there is, and where the next bit stands; or a fault (2: also where the bits ran out). -/
inductive Fin' where
  | ok (out : List Int) (n : Nat)
  | err (e : Int)
  | more
def runG (bs : List Bool) (most : Int) : Nat → Inf → Fin'
  | 0, _ => .more
  | f + 1, st => if st.done then .ok st.out st.n else match stepG bs most st with
    | .ok st' _ => runG bs most f st'
    | .ran => .err 2
    | .bad e => .err e

/-! ### where the next bit stands -/
structure Goes {α : Type} (bs : List Bool) (F : Got α) (n d : Nat) : Prop where
  le : ∀ v m, F = .ok v m → n + d ≤ m ∧ m ≤ bs.length
theorem Goes.zero {α : Type} {bs : List Bool} {F : Got α} {n d : Nat} (h : Goes bs F n d) : Goes bs F n 0 := ⟨fun v m e => by have := h.le v m e; omega⟩
theorem goes_take (bs : List Bool) (k n : Nat) : Goes bs (takeG bs k n) n k := ⟨fun v m h => by
  unfold takeG at h
  split at h
  · cases h; omega
  · cases h⟩
theorem goes_bind {α β : Type} {bs : List Bool} {g : Got α} {f : α → Nat → Got β} {n d : Nat} (h1 : Goes bs g n d) (h2 : ∀ v m, n ≤ m → m ≤ bs.length → Goes bs (f v m) m 0) : Goes bs (g.bind f) n d := ⟨fun w m h => by
  obtain ⟨v, k, hg, hf⟩ := Got.bind_inv h
  have e1 := h1.le v k hg
  have e2 := (h2 v k (by omega) e1.2).le w m hf
  omega⟩
theorem goes_ok {α : Type} {bs : List Bool} {v : α} {n : Nat} (h : n ≤ bs.length) : Goes bs (.ok v n) n 0 := ⟨fun v m e => by cases e; omega⟩
theorem goes_bad {α : Type} {bs : List Bool} {e : Int} {n d : Nat} : Goes bs (.bad e : Got α) n d := ⟨fun v m e => by cases e⟩
theorem goes_ran {α : Type} {bs : List Bool} {n d : Nat} : Goes bs (.ran : Got α) n d := ⟨fun v m e => by cases e⟩
theorem goes_ite {α : Type} {bs : List Bool} {c : Prop} [Decidable c] {a b : Got α} {n d : Nat} (h1 : c → Goes bs a n d) (h2 : ¬ c → Goes bs b n d) : Goes bs (if c then a else b) n d := by
  split
  · next h => exact h1 h
  · next h => exact h2 h
theorem decN_pos (l : List Int) (f : Nat) : ∀ n c bs, (decN l f n c bs).2.1 = 0 → 1 ≤ (decN l f n c bs).2.2 := by
  cases f with
  | zero => intro n c bs h; simp [decN] at h
  | succ f =>
    intro n c bs
    cases bs with
    | nil => intro h; simp [decN] at h
    | cons b t =>
      rw [decN]
      split
      · intro _; simp
      · intro _; simp
theorem goes_sym (bs : List Bool) (L : List Int) (n : Nat) (hn : n ≤ bs.length) : Goes bs (symG bs L n) n 1 := ⟨fun v m h => by
  unfold symG at h
  split at h
  · next h0 =>
    cases h
    have h1 := decN_pos L 15 0 0 _ h0
    have h2 := decN_used (l := L) 15 0 0 (bs.drop n)
    rw [List.length_drop] at h2
    unfold decF
    omega
  · split at h <;> cases h⟩
theorem goes_stored (bs : List Bool) (most : Int) (out : List Int) (n : Nat) : Goes bs (storedG bs most out n) n 0 := by
  have h : Goes bs (storedG bs most out n) (8 * nbytes n) 0 := by
    refine (goes_bind (goes_take bs 16 _) fun a n1 _ _ => (goes_bind (goes_take bs 16 n1) fun b n2 _ _ => ?_).zero).zero
    refine goes_ite (fun _ => goes_ite (fun h => goes_ite (fun _ => goes_bad) fun _ => ?_) fun _ => goes_ran) fun _ => goes_bad
    exact ⟨fun v m e => by cases e; omega⟩
  exact ⟨fun v m e => by have := h.le v m e; unfold nbytes at this; omega⟩
theorem goes_lens (bs : List Bool) : ∀ k xs n, n ≤ bs.length → Goes bs (lensG bs k xs n) n 0 := by
  intro k
  induction k with
  | zero => intro xs n hn; exact goes_ok hn
  | succ k ih => intro xs n hn; exact (goes_bind (goes_take bs 3 n) fun v m _ hm => ih _ m hm).zero
theorem goes_lengths (bs : List Bool) (T : List Int) (N : Nat) : ∀ d l n, N - l.length ≤ d → n ≤ bs.length → Goes bs (lengthsG bs T N l n) n 0 := by
  intro d
  induction d with
  | zero => intro l n hd hn; rw [lengthsG, dif_pos (by omega)]; exact goes_ok hn
  | succ d ih =>
    intro l n hd hn
    rw [lengthsG]
    split
    · exact goes_ok hn
    · next hN =>
      refine (goes_bind (goes_sym bs T n hn) fun c n1 _ h1 => ?_).zero
      refine goes_ite (fun _ => ih _ _ (by simp; omega) h1) fun _ => goes_ite (fun _ => goes_ite (fun _ => goes_bad) fun _ => ?_) fun _ => goes_ite (fun _ => ?_) fun _ => ?_
      all_goals exact (goes_bind (goes_take bs _ n1) fun v m _ hm => goes_ite (fun _ => goes_bad) fun _ => ih _ m (by simp; omega) hm).zero
theorem goes_codes (bs : List Bool) (n : Nat) : Goes bs (codesG bs n) n 0 := by
  refine (goes_bind (goes_take bs 5 n) fun a n1 _ _ => (goes_bind (goes_take bs 5 n1) fun b n2 _ _ => (goes_bind (goes_take bs 4 n2) fun c n3 _ h3 => ?_).zero).zero).zero
  refine goes_ite (fun _ => goes_bad) fun _ => goes_bind (goes_lens bs _ _ n3 h3) fun xs n4 _ h4 => goes_ite (fun _ => ?_) fun _ => goes_bad
  exact goes_bind (goes_lengths bs _ _ _ _ n4 (Nat.le_refl _) h4) fun l n5 _ h5 => goes_ite (fun _ => goes_ok h5) fun _ => goes_bad
theorem goes_tok (bs : List Bool) (most : Int) (L D out : List Int) (n : Nat) (hn : n ≤ bs.length) : Goes bs (tokG bs most L D out n) n 1 := by
  refine goes_bind (goes_sym bs L n hn) fun c n1 _ h1 => goes_ite (fun _ => goes_ok h1) fun _ => goes_ite (fun _ => goes_ite (fun _ => goes_bad) fun _ => goes_ok h1) fun _ => goes_ite (fun _ => goes_bad) fun _ => ?_
  refine (goes_bind (goes_take bs _ n1) fun v n2 _ h2 => (goes_bind (goes_sym bs D n2 h2) fun k n3 _ h3 => goes_ite (fun _ => goes_bad) fun _ => (goes_bind (goes_take bs _ n3) fun u n4 _ h4 => ?_).zero).zero).zero
  exact goes_ite (fun _ => goes_bad) fun _ => goes_ite (fun _ => goes_bad) fun _ => goes_ok h4
theorem goes_head (bs : List Bool) (most : Int) (st : Inf) : Goes bs (headG bs most st) st.n 1 := by
  refine goes_bind (goes_take bs 1 st.n) fun a n1 _ h1 => (goes_bind (goes_take bs 2 n1) fun k n2 _ h2 => ?_).zero
  refine goes_ite (fun _ => goes_bind (goes_stored bs most st.out n2) fun o n3 _ h3 => goes_ok h3) fun _ => goes_ite (fun _ => goes_ok h2) fun _ => goes_ite (fun _ => goes_bind (goes_codes bs n2) fun o n3 _ h3 => goes_ok h3) fun _ => goes_bad
theorem step_n {bs : List Bool} {most : Int} {st st' : Inf} {m : Nat} (h : stepG bs most st = .ok st' m) : st'.n = m := by
  unfold stepG at h
  cases ht : st.tab with
  | none =>
    rw [ht] at h
    simp only at h
    unfold headG at h
    obtain ⟨a, n1, _, h⟩ := Got.bind_inv h
    obtain ⟨k, n2, _, h⟩ := Got.bind_inv h
    split at h
    · obtain ⟨o, n3, _, h⟩ := Got.bind_inv h; cases h; rfl
    · split at h
      · cases h; rfl
      · split at h
        · obtain ⟨o, n3, _, h⟩ := Got.bind_inv h; cases h; rfl
        · cases h
  | some t =>
    rw [ht] at h
    simp only at h
    obtain ⟨r, n1, _, h⟩ := Got.bind_inv h
    cases r with
    | none => cases h; rfl
    | some o => cases h; rfl
/-- Each step takes a bit. -/
theorem step_goes {bs : List Bool} {most : Int} {st st' : Inf} {m : Nat} (hn : st.n ≤ bs.length) (h : stepG bs most st = .ok st' m) : st.n < st'.n ∧ st'.n ≤ bs.length := by
  have e := step_n h
  unfold stepG at h
  cases ht : st.tab with
  | none =>
    rw [ht] at h
    have := (goes_head bs most st).le _ _ h
    omega
  | some t =>
    rw [ht] at h
    have hg : Goes bs ((tokG bs most t.1 t.2 st.out st.n).bind fun r n1 => match r with
      | none => .ok (⟨n1, st.out, none, st.last⟩ : Inf) n1
      | some o => .ok ⟨n1, o, some t, st.last⟩ n1) st.n 1 := goes_bind (goes_tok bs most t.1 t.2 st.out st.n hn) fun r n1 _ h1 => by
        cases r with
        | none => exact goes_ok h1
        | some o => exact goes_ok h1
    have := hg.le _ _ h
    omega
/-- There is an end. -/
theorem run_total {bs : List Bool} {most : Int} : ∀ f st, st.n ≤ bs.length → bs.length < st.n + f → runG bs most f st ≠ .more := by
  intro f
  induction f with
  | zero => intro st h1 h2; omega
  | succ f ih =>
    intro st h1 h2
    rw [runG]
    split
    · intro h; cases h
    · cases hs : stepG bs most st with
      | ok st' m =>
        have := step_goes h1 hs
        exact ih st' this.2 (by omega)
      | ran => intro h; cases h
      | bad e => intro h; cases h
/-- More fuel is of no matter. -/
theorem run_more {bs : List Bool} {most : Int} : ∀ f st, runG bs most f st ≠ .more → ∀ g, f ≤ g → runG bs most g st = runG bs most f st := by
  intro f
  induction f with
  | zero => intro st h; exact absurd rfl h
  | succ f ih =>
    intro st h g hg
    obtain ⟨g, rfl⟩ : ∃ k, g = k + 1 := ⟨g - 1, by omega⟩
    rw [runG, runG]
    rw [runG] at h
    split
    · rfl
    · next hd =>
      rw [if_neg hd] at h
      cases hs : stepG bs most st with
      | ok st' m =>
        rw [hs] at h
        exact ih st' h g (by omega)
      | ran => rfl
      | bad e => rfl
def inflF (bs : List Bool) (most : Int) : Fin' := runG bs most (bs.length + 1) Inf.init
theorem inflF_end (bs : List Bool) (most : Int) : inflF bs most ≠ .more := run_total _ _ (by simp [Inf.init]) (by simp [Inf.init])
theorem infl_eq {bs : List Bool} {most : Int} {f : Nat} {r : Fin'} (h : runG bs most f Inf.init = r) (hr : r ≠ .more) : inflF bs most = r := by
  have h1 := inflF_end bs most
  unfold inflF at h1 ⊢
  rcases Nat.le_total f (bs.length + 1) with h2 | h2
  · rw [run_more f _ (by rw [h]; exact hr) _ h2, h]
  · rw [← run_more _ _ h1 _ h2, h]

/-! ### many steps -/
inductive Steps (bs : List Bool) (most : Int) : Inf → Inf → Prop where
  | refl (st : Inf) : Steps bs most st st
  | step {a b c : Inf} {m : Nat} : a.done = false → stepG bs most a = .ok b m → Steps bs most b c → Steps bs most a c
theorem Steps.trans {bs : List Bool} {most : Int} {a b c : Inf} (h1 : Steps bs most a b) (h2 : Steps bs most b c) : Steps bs most a c := by
  induction h1 with
  | refl => exact h2
  | step hd hs _ ih => exact .step hd hs (ih h2)
theorem Steps.run {bs : List Bool} {most : Int} {a b : Inf} (h : Steps bs most a b) (f : Nat) : ∃ g, runG bs most g a = runG bs most f b := by
  induction h with
  | refl => exact ⟨f, rfl⟩
  | step hd hs _ ih =>
    obtain ⟨g, hg⟩ := ih
    exact ⟨g + 1, by rw [runG, hd, hs]; exact hg⟩
theorem Steps.infl {bs : List Bool} {most : Int} {b : Inf} (h : Steps bs most Inf.init b) (hd : b.done = true) : inflF bs most = .ok b.out b.n := by
  obtain ⟨g, hg⟩ := h.run 1
  refine infl_eq (hg.trans ?_) (by intro h; cases h)
  rw [runG, hd]; rfl
end Go.Proofs.Ytpbodonmiepilaa
/- What an int, a byte, a string are to the program. -/
namespace Go.Proofs.Ytpbodonmiepilaa
open Go.RowKit

theorem intInfo : (Try.prog.info? 3).map (fun i => (i.zero, i.size, i.bytes)) = some (some (.int .i64 0), 1, 8) := by kernel_rfl
theorem u8Info : (Try.prog.info? 5).map (fun i => (i.zero, i.size, i.bytes)) = some (some (.int .u8 0), 1, 1) := by kernel_rfl
end Go.Proofs.Ytpbodonmiepilaa
