/-
  lz: what stands in a text already. No program in sight.
-/
import Derived.Test.YteblnmealnmipaaRow
namespace Go.Proofs.Yteblnmealnmipaa

/-- The i-th byte. -/
def byt (s : ByteArray) (i : Nat) : UInt8 := s.data.getD i 0
/-- How many bytes at two places are the same, at most so many. -/
def commN (s : ByteArray) : Nat → Nat → Nat → Nat
  | 0, _, _ => 0
  | f + 1, a, b => if b < s.size ∧ byt s a = byt s b then commN s f (a + 1) (b + 1) + 1 else 0
def comm (s : ByteArray) (a b : Nat) : Nat := commN s 258 a b
theorem commN_le (s : ByteArray) : ∀ f a b, commN s f a b ≤ f := by
  intro f
  induction f with
  | zero => intro a b; exact Nat.le_refl _
  | succ f ih =>
    intro a b
    unfold commN
    split
    · have := ih (a + 1) (b + 1); omega
    · omega
/-- It is known by what it is. -/
theorem commN_is (s : ByteArray) : ∀ f a b n, n ≤ f → (∀ j, j < n → b + j < s.size ∧ byt s (a + j) = byt s (b + j)) → (n = f ∨ ¬ (b + n < s.size ∧ byt s (a + n) = byt s (b + n))) → commN s f a b = n := by
  intro f
  induction f with
  | zero => intro a b n hn _ _; unfold commN; omega
  | succ f ih =>
    intro a b n hn h1 h2
    cases n with
    | zero =>
      unfold commN
      rw [if_neg (by rcases h2 with h | h; exact absurd h (by omega); simpa using h)]
    | succ n =>
      have h0 := h1 0 (by omega)
      unfold commN
      rw [if_pos (by simpa using h0), ih (a + 1) (b + 1) n (by omega) (fun j hj => ?_) ?_]
      · rcases h2 with h | h
        · exact .inl (by omega)
        · right
          rw [show a + 1 + n = a + (n + 1) by omega, show b + 1 + n = b + (n + 1) by omega]
          exact h
      · have := h1 (j + 1) (by omega)
        rw [show a + 1 + j = a + (j + 1) by omega, show b + 1 + j = b + (j + 1) by omega]
        exact this
theorem comm_is {s : ByteArray} {a b n : Nat} (hn : n ≤ 258) (h1 : ∀ j, j < n → b + j < s.size ∧ byt s (a + j) = byt s (b + j)) (h2 : n = 258 ∨ ¬ (b + n < s.size ∧ byt s (a + n) = byt s (b + n))) : comm s a b = n := commN_is s 258 a b n hn h1 h2
theorem commN_get (s : ByteArray) : ∀ f a b j, j < commN s f a b → b + j < s.size ∧ byt s (a + j) = byt s (b + j) := by
  intro f
  induction f with
  | zero => intro a b j hj; unfold commN at hj; omega
  | succ f ih =>
    intro a b j hj
    unfold commN at hj
    split at hj
    · next h =>
      cases j with
      | zero => simpa using h
      | succ j =>
        have := ih (a + 1) (b + 1) j (by omega)
        rw [show a + 1 + j = a + (j + 1) by omega, show b + 1 + j = b + (j + 1) by omega] at this
        exact this
    · omega
theorem comm_get {s : ByteArray} {a b j : Nat} (h : j < comm s a b) : b + j < s.size ∧ byt s (a + j) = byt s (b + j) := commN_get s 258 a b j h
theorem comm_le (s : ByteArray) (a b : Nat) : comm s a b ≤ 258 := commN_le s 258 a b

/-- The three bytes at a place. -/
def key3 (s : ByteArray) (i : Nat) : UInt8 × UInt8 × UInt8 := (byt s i, byt s (i + 1), byt s (i + 2))
theorem comm3 {s : ByteArray} {a b : Nat} (h : key3 s a = key3 s b) (hb : b + 3 ≤ s.size) : 3 ≤ comm s a b := by
  simp only [key3, Prod.mk.injEq] at h
  obtain ⟨h0, h1, h2⟩ := h
  unfold comm
  rw [show (258 : Nat) = 255 + 3 by rfl]
  unfold commN
  rw [if_pos ⟨by omega, h0⟩]
  unfold commN
  rw [if_pos ⟨by omega, h1⟩]
  unfold commN
  rw [if_pos ⟨by omega, h2⟩]
  omega
theorem comm3' {s : ByteArray} {a b : Nat} (h : 3 ≤ comm s a b) : key3 s a = key3 s b ∧ b + 3 ≤ s.size := by
  have h0 := comm_get (j := 0) (Nat.lt_of_lt_of_le (by omega) h)
  have h1 := comm_get (j := 1) (Nat.lt_of_lt_of_le (by omega) h)
  have h2 := comm_get (j := 2) (Nat.lt_of_lt_of_le (by omega) h)
  simp only [Nat.add_zero] at h0
  exact ⟨by simp [key3, h0.2, h1.2, h2.2], by omega⟩

/-- The latest place ahead of the n-th where three bytes stand, and one more; 0: there is none. -/
def prev (s : ByteArray) (k : UInt8 × UInt8 × UInt8) : Nat → Nat
  | 0 => 0
  | n + 1 => if n + 3 ≤ s.size ∧ key3 s n = k then n + 1 else prev s k n
theorem prev_le (s : ByteArray) (k : UInt8 × UInt8 × UInt8) : ∀ n, prev s k n ≤ n := by
  intro n
  induction n with
  | zero => exact Nat.le_refl _
  | succ n ih => unfold prev; split <;> omega
theorem prev_key {s : ByteArray} {k : UInt8 × UInt8 × UInt8} : ∀ n, 0 < prev s k n → key3 s (prev s k n - 1) = k ∧ prev s k n - 1 + 3 ≤ s.size := by
  intro n
  induction n with
  | zero => intro h; unfold prev at h; omega
  | succ n ih =>
    intro h
    unfold prev at h ⊢
    split
    · next h1 => exact ⟨by simpa using h1.2, by simpa using h1.1⟩
    · next h1 => rw [if_neg h1] at h; exact ih h
theorem prev_none {s : ByteArray} {k : UInt8 × UInt8 × UInt8} : ∀ n q, prev s k n ≤ q → q < n → ¬ (q + 3 ≤ s.size ∧ key3 s q = k) := by
  intro n
  induction n with
  | zero => intro q _ h; omega
  | succ n ih =>
    intro q h1 h2
    unfold prev at h1
    split at h1
    · omega
    · next h =>
      by_cases hq : q = n
      · subst hq; exact h
      · exact ih q h1 (by omega)

/-- The longest, and how far back it is, of those up to so far back; the nearest of these. -/
def best (s : ByteArray) (at_ : Nat) : Nat → Nat × Nat
  | 0 => (0, 0)
  | d + 1 => if (best s at_ d).1 < comm s (at_ - (d + 1)) at_ then (comm s (at_ - (d + 1)) at_, d + 1) else best s at_ d
/-- What is long enough. -/
def trim (p : Nat × Nat) : Nat × Nat := if 3 ≤ p.1 then p else (0, 0)
theorem trim_skip {s : ByteArray} {at_ d : Nat} (h : comm s (at_ - (d + 1)) at_ < 3) : trim (best s at_ (d + 1)) = trim (best s at_ d) := by
  have e2 : best s at_ (d + 1) = if (best s at_ d).1 < comm s (at_ - (d + 1)) at_ then (comm s (at_ - (d + 1)) at_, d + 1) else best s at_ d := by rw [best]
  rw [e2]
  split
  · next h1 =>
    unfold trim
    rw [if_neg (by simp only; omega), if_neg (by omega)]
  · rfl
theorem trim_hit {s : ByteArray} {at_ d : Nat} (h : 3 ≤ comm s (at_ - (d + 1)) at_) :
    trim (best s at_ (d + 1)) = if (trim (best s at_ d)).1 < comm s (at_ - (d + 1)) at_ then (comm s (at_ - (d + 1)) at_, d + 1) else trim (best s at_ d) := by
  by_cases hl : 3 ≤ (best s at_ d).1
  · have e : trim (best s at_ d) = best s at_ d := by unfold trim; rw [if_pos hl]
    rw [e]
    have e2 : best s at_ (d + 1) = if (best s at_ d).1 < comm s (at_ - (d + 1)) at_ then (comm s (at_ - (d + 1)) at_, d + 1) else best s at_ d := by rw [best]
    rw [e2]
    split
    · unfold trim; rw [if_pos h]
    · unfold trim; rw [if_pos hl]
  · have e : trim (best s at_ d) = (0, 0) := by unfold trim; rw [if_neg hl]
    rw [e, if_pos (by simp only; omega)]
    have e2 : best s at_ (d + 1) = (comm s (at_ - (d + 1)) at_, d + 1) := by rw [best, if_pos (by omega)]
    rw [e2]
    unfold trim; rw [if_pos h]
/-- From one place to a place ahead, where nothing that is long enough stands between. -/
theorem trim_skips {s : ByteArray} {at_ d : Nat} : ∀ e, (∀ q, d ≤ q → q < e → comm s (at_ - (q + 1)) at_ < 3) → d ≤ e → trim (best s at_ e) = trim (best s at_ d) := by
  intro e
  induction e with
  | zero => intro _ h; have : d = 0 := by omega
            rw [this]
  | succ e ih =>
    intro h hle
    by_cases hd : d = e + 1
    · rw [hd]
    · rw [trim_skip (h e (by omega) (by omega)), ih (fun q h1 h2 => h q h1 (by omega)) (by omega)]
/-- What has been looked at, when the next one to look at is p - 1. -/
def seen (s : ByteArray) (at_ p : Nat) : Nat × Nat := trim (best s at_ (min (at_ - p) 4096))
theorem seen_skip {s : ByteArray} {at_ m : Nat} (hm : m ≤ at_) : seen s at_ (prev s (key3 s at_) m) = seen s at_ m := by
  unfold seen
  have hp := prev_le s (key3 s at_) m
  refine trim_skips _ (fun q h1 h2 => ?_) (by omega)
  rcases Nat.lt_or_ge (comm s (at_ - (q + 1)) at_) 3 with h | h
  · exact h
  · exfalso
    obtain ⟨hk, hsz⟩ := comm3' h
    exact prev_none m (at_ - (q + 1)) (by omega) (by omega) ⟨by omega, hk⟩
theorem seen_start (s : ByteArray) (at_ : Nat) : seen s at_ at_ = (0, 0) := by
  unfold seen
  rw [Nat.sub_self]
  rfl
theorem seen_hit {s : ByteArray} {at_ p : Nat} (hp : 0 < p) (hpa : p ≤ at_) (hw : at_ - (p - 1) ≤ 4096) (hk : key3 s (p - 1) = key3 s at_) (ha : at_ + 3 ≤ s.size) :
    seen s at_ (p - 1) = if (seen s at_ p).1 < comm s (p - 1) at_ then (comm s (p - 1) at_, at_ - (p - 1)) else seen s at_ p := by
  have h3 := comm3 hk ha
  unfold seen
  rw [show min (at_ - (p - 1)) 4096 = (at_ - p) + 1 by omega, show min (at_ - p) 4096 = at_ - p by omega]
  have e : at_ - (at_ - p + 1) = p - 1 := by omega
  rw [trim_hit (by rw [e]; exact h3), e, show at_ - p + 1 = at_ - (p - 1) by omega]
/-- What is found at a place. -/
def found (s : ByteArray) (at_ : Nat) : Nat × Nat := trim (best s at_ (min at_ 4096))
theorem seen_end {s : ByteArray} {at_ p : Nat} (hpa : p ≤ at_) (h : p = 0 ∨ 4096 < at_ - (p - 1)) : seen s at_ p = found s at_ := by
  unfold seen found
  rcases h with h | h
  · subst h; rfl
  · rw [show min (at_ - p) 4096 = min at_ 4096 by omega]
theorem found_none {s : ByteArray} {at_ : Nat} (h : s.size < at_ + 3) : found s at_ = (0, 0) := by
  unfold found
  rw [trim_skips (d := 0) _ (fun q _ _ => ?_) (by omega)]
  · rfl
  · rcases Nat.lt_or_ge (comm s (at_ - (q + 1)) at_) 3 with h1 | h1
    · exact h1
    · have := (comm3' h1).2; omega
theorem best_far (s : ByteArray) (at_ : Nat) : ∀ d, (best s at_ d).2 ≤ d ∧ (0 < (best s at_ d).1 → 1 ≤ (best s at_ d).2 ∧ (best s at_ d).1 = comm s (at_ - (best s at_ d).2) at_) ∧ (best s at_ d).1 ≤ 258 := by
  intro d
  induction d with
  | zero => simp [best]
  | succ d ih =>
    rw [best]
    split
    · exact ⟨Nat.le_refl _, fun _ => ⟨by simp, rfl⟩, comm_le ..⟩
    · exact ⟨by omega, ih.2.1, ih.2.2⟩
end Go.Proofs.Yteblnmealnmipaa
