/-
  huff: package-merge, plainly: sums, rows of coins, what is taken of them, and why nothing costs less. No program in sight.
-/
import Derived.Test.YtfeamlbkogigkaaSrtC1
namespace Go.Proofs.Ytfeamlbkogigkaa

/-! ### sums -/
def sumF {α : Type} (f : α → Int) : List α → Int
  | [] => 0
  | x :: t => f x + sumF f t
section
variable {α β : Type} {f g : α → Int}
theorem sumF_nil : sumF f [] = 0 := rfl
theorem sumF_cons (x : α) (t : List α) : sumF f (x :: t) = f x + sumF f t := rfl
theorem sumF_append (a b : List α) : sumF f (a ++ b) = sumF f a + sumF f b := by
  induction a with
  | nil => simp [sumF]
  | cons x t ih => rw [List.cons_append, sumF_cons, sumF_cons, ih]; omega
theorem sumF_perm {a b : List α} (h : a.Perm b) : sumF f a = sumF f b := by
  induction h with
  | nil => rfl
  | cons x _ ih => rw [sumF_cons, sumF_cons, ih]
  | swap x y l => simp only [sumF_cons]; omega
  | trans _ _ h1 h2 => exact h1.trans h2
theorem sumF_congr {l : List α} (h : ∀ x ∈ l, f x = g x) : sumF f l = sumF g l := by
  induction l with
  | nil => rfl
  | cons x t ih => rw [sumF_cons, sumF_cons, h x (by simp), ih fun y hy => h y (by simp [hy])]
theorem sumF_map (m : β → α) (l : List β) : sumF f (l.map m) = sumF (fun x => f (m x)) l := by
  induction l with
  | nil => rfl
  | cons x t ih => rw [List.map_cons, sumF_cons, sumF_cons, ih]
theorem sumF_mono {l : List α} (h : ∀ x ∈ l, f x ≤ g x) : sumF f l ≤ sumF g l := by
  induction l with
  | nil => exact Int.le_refl _
  | cons x t ih =>
    rw [sumF_cons, sumF_cons]
    have := h x (by simp)
    have := ih fun y hy => h y (by simp [hy])
    omega
theorem sumF_nonneg {l : List α} (h : ∀ x ∈ l, 0 ≤ f x) : 0 ≤ sumF f l := by
  induction l with
  | nil => exact Int.le_refl _
  | cons x t ih =>
    rw [sumF_cons]
    have := h x (by simp)
    have := ih fun y hy => h y (by simp [hy])
    omega
theorem sumF_filter (p : α → Bool) (l : List α) : sumF f l = sumF f (l.filter p) + sumF f (l.filter fun x => !p x) := by
  induction l with
  | nil => rfl
  | cons x t ih =>
    rw [sumF_cons, ih, List.filter_cons, List.filter_cons]
    cases p x <;> simp [sumF_cons] <;> omega
theorem sumF_sub {a b : List α} (h : a.Sublist b) (hf : ∀ x ∈ b, f x ≤ 0) : sumF f b ≤ sumF f a := by
  induction h with
  | slnil => exact Int.le_refl _
  | cons x _ ih =>
    have := ih fun y hy => hf y (by simp [hy])
    have := hf x (by simp)
    rw [sumF_cons]; omega
  | cons_cons x _ ih =>
    have := ih fun y hy => hf y (by simp [hy])
    rw [sumF_cons, sumF_cons]; omega
theorem sumF_add (l : List α) : sumF (fun x => f x + g x) l = sumF f l + sumF g l := by
  induction l with
  | nil => rfl
  | cons x t ih => simp only [sumF_cons, ih]; omega
theorem sumF_const (c : Int) (l : List α) : sumF (fun _ => c) l = l.length * c := by
  induction l with
  | nil => simp [sumF]
  | cons x t ih => rw [sumF_cons, ih, List.length_cons, Int.natCast_add, Int.add_mul]; simp; omega
end
theorem perm_filter {α : Type} {p : α → Bool} {a b : List α} (h : a.Perm b) : (a.filter p).Perm (b.filter p) := h.filter p

/-! ### the least of a sorted row -/
section
variable {α : Type} {key : α → Int}
/-- No choice of so many costs less than the first so many of the sorted row. -/
theorem least_front {X Y R : List α} (hX : X.Sublist Y) (hY : Y.Perm R) (hR : Srt key R) : X.length ≤ R.length ∧ sumF key (R.take X.length) ≤ sumF key X := by
  have hl : X.length ≤ R.length := by rw [← hY.length_eq]; exact hX.length_le
  refine ⟨hl, ?_⟩
  rcases Nat.eq_zero_or_pos X.length with h0 | h0
  · rw [h0, List.take_zero, List.eq_nil_of_length_eq_zero h0]; exact Int.le_refl _
  have hm : X.length - 1 < R.length := by omega
  obtain ⟨t, ht⟩ : ∃ t, t = key (R[X.length - 1]) := ⟨_, rfl⟩
  have hsplit : R = R.take X.length ++ R.drop X.length := (List.take_append_drop _ _).symm
  have hlow : ∀ x ∈ R.take X.length, key x ≤ t := by
    intro x hx
    obtain ⟨i, hi, rfl⟩ := List.getElem_of_mem hx
    rw [List.length_take] at hi
    rw [List.getElem_take, ht]
    rcases Nat.lt_or_ge i (X.length - 1) with h | h
    · exact List.pairwise_iff_getElem.1 hR i (X.length - 1) (by omega) hm h
    · have : i = X.length - 1 := by omega
      subst this; exact Int.le_refl _
  have hhigh : ∀ x ∈ R.drop X.length, t ≤ key x := by
    intro x hx
    obtain ⟨i, hi, rfl⟩ := List.getElem_of_mem hx
    rw [List.length_drop] at hi
    rw [List.getElem_drop, ht]
    exact List.pairwise_iff_getElem.1 hR (X.length - 1) (X.length + i) hm (by omega) (by omega)
  let m : α → Int := fun x => if key x < t then key x - t else 0
  have e1 : sumF m R = sumF key (R.take X.length) - X.length * t := by
    rw [hsplit, sumF_append]
    have a1 : sumF m (R.drop X.length) = 0 := by
      rw [sumF_congr (g := fun _ => 0) (fun x hx => by simp only [m]; rw [if_neg (by have := hhigh x hx; omega)]), sumF_const]; simp
    have a2 : sumF m (R.take X.length) = sumF (fun x => key x + -t) (R.take X.length) := sumF_congr fun x hx => by
      simp only [m]
      have := hlow x hx
      split <;> omega
    rw [a1, a2, sumF_add, sumF_const, List.length_take, Nat.min_eq_left hl, ← hsplit, Int.mul_neg]
    omega
  have e2 : sumF m Y ≤ sumF m X := sumF_sub hX fun x _ => by simp only [m]; split <;> omega
  have e3 : sumF m X ≤ sumF (fun x => key x + -t) X := sumF_mono fun x _ => by simp only [m]; split <;> omega
  rw [sumF_add, sumF_const, Int.mul_neg] at e3
  rw [sumF_perm hY, e1] at e2
  omega
end

/-! ### rows -/
def pairsF : List Coin → List Coin
  | a :: b :: t => ⟨a.w + b.w, true⟩ :: pairsF t
  | _ => []
def rowF (base ahead : List Coin) : List Coin := sortF Coin.w (base ++ pairsF ahead)
def rowsF (base : List Coin) : Nat → List Coin
  | 0 => base
  | i + 1 => rowF base (rowsF base i)
/-- How many pairs are among the first so many. -/
def npF (l : List Coin) (n : Nat) : Nat := (l.take n).countP fun c => c.pair
/-- How many singles are taken, row by row, from the last on. -/
def cntF (base : List Coin) : Nat → Nat → List Nat
  | 0, n => [n - npF (rowsF base 0) n]
  | i + 1, n => (n - npF (rowsF base (i + 1)) n) :: cntF base i (2 * npF (rowsF base (i + 1)) n)

theorem pairsF_length : ∀ l : List Coin, (pairsF l).length = l.length / 2
  | [] => rfl
  | [_] => by simp [pairsF]
  | a :: b :: t => by rw [pairsF, List.length_cons, pairsF_length t]; simp only [List.length_cons]; omega
theorem pairsF_pair : ∀ (l : List Coin) (c : Coin), c ∈ pairsF l → c.pair = true
  | [], _, h => by simp [pairsF] at h
  | [_], _, h => by simp [pairsF] at h
  | a :: b :: t, c, h => by
    rw [pairsF] at h
    rcases List.mem_cons.1 h with rfl | h
    · rfl
    · exact pairsF_pair t c h
theorem pairsF_ge : ∀ (l : List Coin) (m : Int), (∀ c ∈ l, m ≤ c.w) → ∀ c ∈ pairsF l, m + m ≤ c.w
  | [], _, _, _, h => by simp [pairsF] at h
  | [_], _, _, _, h => by simp [pairsF] at h
  | a :: b :: t, m, hm, c, h => by
    rw [pairsF] at h
    rcases List.mem_cons.1 h with rfl | h
    · have := hm a (by simp)
      have := hm b (by simp)
      show m + m ≤ a.w + b.w
      omega
    · exact pairsF_ge t m (fun c hc => hm c (by simp [hc])) c h
theorem pairsF_le : ∀ (l : List Coin) (m : Int), (∀ c ∈ l, c.w ≤ m) → ∀ c ∈ pairsF l, c.w ≤ m + m
  | [], _, _, _, h => by simp [pairsF] at h
  | [_], _, _, _, h => by simp [pairsF] at h
  | a :: b :: t, m, hm, c, h => by
    rw [pairsF] at h
    rcases List.mem_cons.1 h with rfl | h
    · have := hm a (by simp)
      have := hm b (by simp)
      show a.w + b.w ≤ m + m
      omega
    · exact pairsF_le t m (fun c hc => hm c (by simp [hc])) c h
theorem pairsF_srt : ∀ l : List Coin, Srt Coin.w l → Srt Coin.w (pairsF l)
  | [], _ => by simp [pairsF, Srt]
  | [_], _ => by simp [pairsF, Srt]
  | a :: b :: t, h => by
    rw [pairsF]
    have h1 : ∀ x ∈ t, a.w ≤ x.w := fun x hx => (List.pairwise_cons.1 h).1 x (by simp [hx])
    have h2 : ∀ x ∈ t, b.w ≤ x.w := fun x hx => (List.pairwise_cons.1 (List.pairwise_cons.1 h).2).1 x hx
    have h0 : a.w ≤ b.w := (List.pairwise_cons.1 h).1 b (by simp)
    refine List.pairwise_cons.2 ⟨fun c hc => ?_, pairsF_srt t (List.pairwise_cons.1 (List.pairwise_cons.1 h).2).2⟩
    have := pairsF_ge t b.w h2 c hc
    show a.w + b.w ≤ c.w
    omega
theorem pairsF_take : ∀ (l : List Coin) (p : Nat), 2 * p ≤ l.length → sumF Coin.w ((pairsF l).take p) = sumF Coin.w (l.take (2 * p))
  | _, 0, _ => by simp [sumF]
  | [], p + 1, h => by simp at h
  | [_], p + 1, h => by simp at h; omega
  | a :: b :: t, p + 1, h => by
    have e : 2 * (p + 1) = 2 * p + 1 + 1 := by omega
    rw [pairsF, List.take_succ_cons, e, List.take_succ_cons, List.take_succ_cons, sumF_cons, sumF_cons, sumF_cons, pairsF_take t p (by simp at h; omega)]
    show a.w + b.w + _ = _
    omega

/-- What singles are to be. -/
structure Base (base : List Coin) : Prop where
  single : ∀ c ∈ base, c.pair = false
  srt : Srt Coin.w base
  pos : ∀ c ∈ base, 1 ≤ c.w

theorem StEq.filter {α : Type} {key : α → Int} {l m : List α} (h : StEq key l m) (p : α → Bool) : StEq key (l.filter p) (m.filter p) := fun k => by
  rw [List.filter_filter, List.filter_filter]
  have := congrArg (List.filter p) (h k)
  rw [List.filter_filter, List.filter_filter] at this
  simpa [Bool.and_comm] using this
section
variable {base : List Coin} (hb : Base base)
theorem rowF_srt (base a : List Coin) : Srt Coin.w (rowF base a) := (sortF_law _).1
theorem rowF_perm (base a : List Coin) : (base ++ pairsF a).Perm (rowF base a) := (sortF_law _).2.perm
include hb
theorem rowsF_srt (i : Nat) : Srt Coin.w (rowsF base i) := by
  cases i with
  | zero => exact hb.srt
  | succ i => exact rowF_srt _ _
theorem rowF_pairs (a : List Coin) (ha : Srt Coin.w a) : (rowF base a).filter (fun c => c.pair) = pairsF a := by
  have h1 := (sortF_law (key := Coin.w) (base ++ pairsF a)).2.filter (fun c => c.pair)
  have e : (base ++ pairsF a).filter (fun c => c.pair) = pairsF a := by
    rw [List.filter_append, List.filter_eq_nil_iff.2 (fun c hc => by simp [hb.single c hc]), List.nil_append, List.filter_eq_self.2 (fun c hc => pairsF_pair a c hc)]
  rw [e] at h1
  exact (StEq.unique (pairsF_srt a ha) ((rowF_srt base a).filter _) h1).symm
theorem rowF_singles (a : List Coin) : (rowF base a).filter (fun c => !c.pair) = base := by
  have h1 := (sortF_law (key := Coin.w) (base ++ pairsF a)).2.filter (fun c => !c.pair)
  have e : (base ++ pairsF a).filter (fun c => !c.pair) = base := by
    rw [List.filter_append, List.filter_eq_self.2 (fun c hc => by simp [hb.single c hc]), List.filter_eq_nil_iff.2 (fun c hc => by simp [pairsF_pair a c hc]), List.append_nil]
  rw [e] at h1
  exact (StEq.unique hb.srt ((rowF_srt base a).filter _) h1).symm
theorem rowsF_singles (i : Nat) : (rowsF base i).filter (fun c => !c.pair) = base := by
  cases i with
  | zero => exact List.filter_eq_self.2 (fun c hc => by simp [hb.single c hc])
  | succ i => exact rowF_singles hb _
theorem rowsF_zero_np (n : Nat) : npF (rowsF base 0) n = 0 := by
  unfold npF
  rw [List.countP_eq_zero]
  intro c hc
  simp [hb.single c (List.mem_of_mem_take hc)]
theorem rowsF_pos (i : Nat) : ∀ c ∈ rowsF base i, 1 ≤ c.w := by
  induction i with
  | zero => exact hb.pos
  | succ i ih =>
    intro c hc
    rcases List.mem_append.1 ((rowF_perm base _).symm.subset hc) with h | h
    · exact hb.pos c h
    · have := pairsF_ge _ 1 ih c h; omega
omit hb
theorem rowsF_le (i : Nat) (m : Int) (hm : 0 ≤ m) (h : ∀ c ∈ base, c.w ≤ m) : ∀ c ∈ rowsF base i, c.w ≤ 2 ^ i * m := by
  induction i with
  | zero => intro c hc; have := h c hc; simpa using this
  | succ i ih =>
    intro c hc
    have e : (2 : Int) ^ (i + 1) * m = 2 ^ i * m + 2 ^ i * m := by rw [Int.pow_succ, Int.mul_comm (2 ^ i) 2, Int.mul_assoc]; omega
    rcases List.mem_append.1 ((rowF_perm base _).symm.subset hc) with h1 | h1
    · have h2 := h c h1
      have h3 : (1 : Int) ≤ 2 ^ (i + 1) := by
        have : (0 : Int) < 2 ^ (i + 1) := Int.pow_pos (by omega)
        omega
      have := Int.mul_le_mul_of_nonneg_right h3 hm
      omega
    · rw [e]
      exact pairsF_le _ _ ih c h1
theorem rowsF_length (i : Nat) : (rowsF base (i + 1)).length = base.length + (rowsF base i).length / 2 := by
  show (rowF base (rowsF base i)).length = _
  rw [← (rowF_perm base _).length_eq, List.length_append, pairsF_length]
/-- All that is asked for is there. -/
theorem rowsF_enough (i : Nat) : base.length ≤ 2 ^ (i + 1) → 2 * base.length ≤ (rowsF base i).length + 2 := by
  have key : ∀ i, (2 * base.length - (rowsF base i).length) * 2 ^ i < base.length + 2 ^ i := by
    intro i
    induction i with
    | zero => simp [rowsF]; omega
    | succ i ih =>
      rw [rowsF_length, Nat.pow_succ]
      have e : 2 * base.length - (base.length + (rowsF base i).length / 2) ≤ (2 * base.length - (rowsF base i).length + 1) / 2 := by omega
      have h1 : (2 * base.length - (base.length + (rowsF base i).length / 2)) * 2 ≤ 2 * base.length - (rowsF base i).length + 1 := by omega
      have h2 := Nat.mul_le_mul_right (2 ^ i) h1
      rw [Nat.add_mul, Nat.one_mul] at h2
      have h3 : (2 * base.length - (base.length + (rowsF base i).length / 2)) * (2 ^ i * 2) = (2 * base.length - (base.length + (rowsF base i).length / 2)) * 2 * 2 ^ i := by
        rw [Nat.mul_assoc, Nat.mul_comm 2 (2 ^ i)]
      omega
  intro h
  have h1 := key i
  rw [Nat.pow_succ] at h
  have hp : 0 < 2 ^ i := Nat.pow_pos (by omega)
  rcases Nat.lt_or_ge (2 * base.length - (rowsF base i).length) 3 with h2 | h2
  · omega
  · have := Nat.mul_le_mul_right (2 ^ i) h2
    omega
theorem npF_le (l : List Coin) (n : Nat) : npF l n ≤ n := by
  unfold npF
  exact Nat.le_trans List.countP_le_length (by rw [List.length_take]; omega)
theorem take_filter {α : Type} (l : List α) (n : Nat) (q : α → Bool) : (l.take n).filter q = (l.filter q).take ((l.take n).countP q) := by
  have e : l.filter q = (l.take n).filter q ++ (l.drop n).filter q := by rw [← List.filter_append, List.take_append_drop]
  rw [e, List.countP_eq_length_filter, List.take_left]
include hb
/-- The pairs that are taken. -/
theorem np_pairs (i n : Nat) : npF (rowsF base (i + 1)) n ≤ (pairsF (rowsF base i)).length ∧ ((rowsF base (i + 1)).take n).filter (fun c => c.pair) = (pairsF (rowsF base i)).take (npF (rowsF base (i + 1)) n) := by
  have e := take_filter (rowsF base (i + 1)) n (fun c => c.pair)
  have e2 : (rowsF base (i + 1)).filter (fun c => c.pair) = pairsF (rowsF base i) := rowF_pairs hb _ (rowsF_srt hb i)
  rw [e2] at e
  refine ⟨?_, e⟩
  rw [← e2, ← List.countP_eq_length_filter]
  exact (List.take_sublist n (rowsF base (i + 1))).countP_le
theorem np_two (i n : Nat) : 2 * npF (rowsF base (i + 1)) n ≤ (rowsF base i).length := by
  have := (np_pairs hb i n).1
  rw [pairsF_length] at this
  omega
/-- The singles that are taken. -/
theorem ns_singles (i n : Nat) (hn : n ≤ (rowsF base i).length) : n - npF (rowsF base i) n ≤ base.length ∧ ((rowsF base i).take n).filter (fun c => !c.pair) = base.take (n - npF (rowsF base i) n) := by
  have e := take_filter (rowsF base i) n (fun c => !c.pair)
  rw [rowsF_singles hb] at e
  have hc : ((rowsF base i).take n).countP (fun c => !c.pair) = n - npF (rowsF base i) n := by
    have h := List.length_eq_countP_add_countP (fun c : Coin => c.pair) (l := (rowsF base i).take n)
    rw [List.length_take, Nat.min_eq_left hn] at h
    have h2 : ((rowsF base i).take n).countP (fun c => !c.pair) = ((rowsF base i).take n).countP (fun c => decide (¬ c.pair = true)) := by
      congr 1; funext c; cases c.pair <;> rfl
    rw [h2]
    unfold npF
    omega
  rw [hc] at e
  refine ⟨?_, e⟩
  rw [← hc]
  have h3 := (List.take_sublist n (rowsF base i)).countP_le (p := fun c => !c.pair)
  rw [List.countP_eq_length_filter (l := rowsF base i), rowsF_singles hb] at h3
  exact h3
/-- What the first of a row weigh. -/
theorem front_sum (i n : Nat) (hn : n ≤ (rowsF base (i + 1)).length) :
    sumF Coin.w ((rowsF base (i + 1)).take n) = sumF Coin.w (base.take (n - npF (rowsF base (i + 1)) n)) + sumF Coin.w ((rowsF base i).take (2 * npF (rowsF base (i + 1)) n)) := by
  rw [sumF_filter (fun c => c.pair), (np_pairs hb i n).2, (ns_singles hb (i + 1) n hn).2, pairsF_take _ _ (np_two hb i n)]
  omega
/-- The weight of all that is taken. -/
theorem taken_sum (i : Nat) : ∀ n, n ≤ (rowsF base i).length → sumF (fun s => sumF Coin.w (base.take s)) (cntF base i n) = sumF Coin.w ((rowsF base i).take n) := by
  induction i with
  | zero =>
    intro n hn
    rw [cntF, rowsF_zero_np hb]
    simp [sumF, rowsF]
  | succ i ih =>
    intro n hn
    rw [cntF, sumF_cons, ih _ (np_two hb i n), front_sum hb i n hn]
/-- Each row takes no more singles than the one behind it. -/
theorem ns_falls (i n m : Nat) (hn : n ≤ (rowsF base (i + 1)).length) (hm : m = 2 * npF (rowsF base (i + 1)) n) :
    m - npF (rowsF base i) m ≤ n - npF (rowsF base (i + 1)) n := by
  subst hm
  have hs1 := ns_singles hb (i + 1) n hn
  have hs0 := ns_singles hb i _ (np_two hb i n)
  have hp := np_pairs hb i n
  obtain ⟨P, hP⟩ : ∃ P, P = npF (rowsF base (i + 1)) n := ⟨_, rfl⟩
  obtain ⟨s1, h1⟩ : ∃ s, s = n - P := ⟨_, rfl⟩
  obtain ⟨s0, h0⟩ : ∃ s, s = 2 * P - npF (rowsF base i) (2 * P) := ⟨_, rfl⟩
  rw [← hP] at hs1 hs0 hp ⊢
  rw [← h1] at hs1 ⊢
  rw [← h0] at hs0 ⊢
  refine Nat.le_of_not_lt fun hlt => ?_
  have hk : s1 < base.length := by omega
  -- the single number s1 is among the first 2P of row i
  have hin : base[s1] ∈ (rowsF base i).take (2 * P) := by
    have : base[s1] ∈ ((rowsF base i).take (2 * P)).filter (fun c => !c.pair) := by
      rw [hs0.2]
      exact List.mem_take_iff_getElem.2 ⟨s1, by omega, rfl⟩
    exact (List.mem_filter.1 this).1
  -- so a pair among the first P weighs more
  have hpair : ∀ (l : List Coin) (P : Nat) (c : Coin), (∀ c ∈ l, 1 ≤ c.w) → 2 * P ≤ l.length → c ∈ l.take (2 * P) → ∃ d ∈ (pairsF l).take P, c.w < d.w := by
    intro l
    induction l using pairsF.induct with
    | case1 a b t ih =>
      intro P c hpos hl hc
      cases P with
      | zero => simp at hc
      | succ P =>
        have e : 2 * (P + 1) = 2 * P + 1 + 1 := by omega
        rw [e, List.take_succ_cons, List.take_succ_cons] at hc
        rw [pairsF, List.take_succ_cons]
        have ha := hpos a (by simp)
        have hb := hpos b (by simp)
        rcases List.mem_cons.1 hc with rfl | hc
        · exact ⟨_, List.mem_cons_self, by show c.w < c.w + b.w; omega⟩
        · rcases List.mem_cons.1 hc with rfl | hc
          · exact ⟨_, List.mem_cons_self, by show c.w < a.w + c.w; omega⟩
          · obtain ⟨d, hd, hlt⟩ := ih P c (fun c hc => hpos c (by simp [hc])) (by simp at hl; omega) hc
            exact ⟨d, List.mem_cons_of_mem _ hd, hlt⟩
    | case2 l h =>
      intro P c _ hl hc
      have : P = 0 := by
        match l, h with
        | [], _ => simp at hl; omega
        | [_], _ => simp at hl; omega
        | a :: b :: t, h => exact absurd rfl (h a b t)
      subst this
      simp at hc
  obtain ⟨d, hd, hlt2⟩ := hpair (rowsF base i) P base[s1] (rowsF_pos hb i) (by rw [hP]; exact np_two hb i n) hin
  rw [← hp.2] at hd
  have hd' := (List.mem_filter.1 hd).1
  -- the row is sorted: all that weighs less lies ahead of it
  have hall : base[s1] ∈ (rowsF base (i + 1)).take n := by
    have hmem : base[s1] ∈ rowsF base (i + 1) := by
      have : base[s1] ∈ (rowsF base (i + 1)).filter (fun c => !c.pair) := by rw [rowsF_singles hb]; exact List.getElem_mem _
      exact (List.mem_filter.1 this).1
    have hsp := List.take_append_drop n (rowsF base (i + 1))
    rw [← hsp] at hmem
    rcases List.mem_append.1 hmem with h | h
    · exact h
    · exfalso
      have := (by rw [hsp]; exact rowsF_srt hb (i + 1) : Srt Coin.w ((rowsF base (i + 1)).take n ++ (rowsF base (i + 1)).drop n)).across d hd' _ h
      omega
  have : base[s1] ∈ ((rowsF base (i + 1)).take n).filter (fun c => !c.pair) := List.mem_filter.2 ⟨hall, by simp [hb.single _ (List.getElem_mem hk)]⟩
  rw [hs1.2] at this
  -- but it is not among the first s1 of the singles by weight alone: count
  have hcount : (base.take (s1 + 1)).length ≤ s1 := by
    have hsub : ∀ c ∈ base.take (s1 + 1), c.w ≤ base[s1].w := by
      intro c hc
      obtain ⟨j, hj, rfl⟩ := List.getElem_of_mem hc
      rw [List.length_take] at hj
      rw [List.getElem_take]
      rcases Nat.lt_or_ge j s1 with h | h
      · exact List.pairwise_iff_getElem.1 hb.srt j s1 (by omega) hk h
      · have : j = s1 := by omega
        subst this; exact Int.le_refl _
    have hpre : (base.take (s1 + 1)).countP (fun c => decide (c.w < d.w)) = s1 + 1 := by
      rw [List.countP_eq_length.2 (fun c hc => by have := hsub c hc; simp; omega), List.length_take]; omega
    have hle : base.countP (fun c => decide (c.w < d.w)) ≤ s1 := by
      have e1 : base.countP (fun c => decide (c.w < d.w)) = (((rowsF base (i + 1)).filter (fun c => !c.pair))).countP (fun c => decide (c.w < d.w)) := by rw [rowsF_singles hb]
      have e2 : ((rowsF base (i + 1)).drop n).countP (fun c => decide (c.w < d.w)) = 0 := by
        rw [List.countP_eq_zero]
        intro c hc
        have hsp := List.take_append_drop n (rowsF base (i + 1))
        have := (by rw [hsp]; exact rowsF_srt hb (i + 1) : Srt Coin.w ((rowsF base (i + 1)).take n ++ (rowsF base (i + 1)).drop n)).across d hd' _ hc
        simp; omega
      rw [e1, ← List.take_append_drop n (rowsF base (i + 1)), List.filter_append, List.countP_append, hs1.2]
      have e3 : (((rowsF base (i + 1)).drop n).filter (fun c => !c.pair)).countP (fun c => decide (c.w < d.w)) = 0 := by
        rw [List.countP_eq_zero] at e2 ⊢
        intro c hc
        exact e2 c (List.mem_filter.1 hc).1
      rw [e3]
      have := List.countP_le_length (p := fun c : Coin => decide (c.w < d.w)) (l := base.take s1)
      rw [List.length_take] at this
      omega
    have := (List.take_sublist (s1 + 1) base).countP_le (p := fun c : Coin => decide (c.w < d.w))
    omega
  rw [List.length_take] at hcount
  omega
end
end Go.Proofs.Ytfeamlbkogigkaa
