/-
  Stable sorts, plainly: lists of sorted blocks. No program in sight.
-/
import Derived.Test.YtfeamlbkogigkaaSrtP
namespace Go.Proofs.Ytfeamlbkogigkaa

section
variable {α : Type} {key : α → Int}
/-- Sorted blocks, each of b. -/
inductive FullC (key : α → Int) (b : Nat) : List α → Prop
  | nil : FullC key b []
  | cons {x r : List α} : x.length = b → Srt key x → FullC key b r → FullC key b (x ++ r)
theorem FullC.snoc {b : Nat} {p x : List α} (h : FullC key b p) (hl : x.length = b) (hs : Srt key x) : FullC key b (p ++ x) := by
  induction h with
  | nil => have := FullC.cons hl hs (FullC.nil (key := key) (b := b)); simpa using this
  | cons h1 h2 _ ih => rw [List.append_assoc]; exact .cons h1 h2 ih
theorem FullC.len {b : Nat} {p : List α} (h : FullC key b p) : ∃ q, p.length = q * b := by
  induction h with
  | nil => exact ⟨0, by simp⟩
  | cons h1 _ _ ih => obtain ⟨q, hq⟩ := ih; exact ⟨q + 1, by rw [List.length_append, h1, hq, Nat.add_mul]; omega⟩
theorem FullC.front {b : Nat} {p : List α} (h : FullC key b p) (hp : 0 < p.length) : ∃ x r, p = x ++ r ∧ x.length = b ∧ Srt key x ∧ FullC key b r := by
  cases h with
  | nil => simp at hp
  | cons h1 h2 h3 => exact ⟨_, _, rfl, h1, h2, h3⟩
/-- Two blocks at the front. -/
theorem FullC.two {b : Nat} {p : List α} (h : FullC key b p) (hp : b < p.length) : ∃ x y r, p = x ++ y ++ r ∧ x.length = b ∧ y.length = b ∧ Srt key x ∧ Srt key y ∧ FullC key b r := by
  obtain ⟨x, r, rfl, h1, h2, h3⟩ := h.front (by omega)
  obtain ⟨y, r2, rfl, h4, h5, h6⟩ := h3.front (by rw [List.length_append] at hp; omega)
  exact ⟨x, y, r2, by simp, h1, h4, h2, h5, h6⟩
theorem FullC.one {b : Nat} {p : List α} (h : FullC key b p) (hp : p.length ≤ b) (hb : 0 < b) : p = [] ∨ p.length = b ∧ Srt key p := by
  rcases Nat.eq_zero_or_pos p.length with h0 | h0
  · exact .inl (List.eq_nil_of_length_eq_zero h0)
  · obtain ⟨x, r, rfl, h1, h2, h3⟩ := h.front h0
    rw [List.length_append] at hp
    have : r = [] := List.eq_nil_of_length_eq_zero (by omega)
    subst this
    exact .inr ⟨by simpa using h1, by simpa using h2⟩
end
end Go.Proofs.Ytfeamlbkogigkaa
