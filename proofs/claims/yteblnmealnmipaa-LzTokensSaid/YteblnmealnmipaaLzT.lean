/-
  lz: a text's tokens, plainly.
-/
import Derived.Test.YteblnmealnmipaaLzP
import Derived.Test.YteblnmealnmipaaRec
namespace Go.Proofs.Yteblnmealnmipaa

structure Tok where
  len : Int
  dist : Int
  lit : Int
deriving DecidableEq
def tcell (t : Tok) : List Value := [.int .i64 t.len, .int .i64 t.dist, .int .i64 t.lit]
def tval (t : Tok) : Value := .agg #[.int .i64 t.len, .int .i64 t.dist, .int .i64 t.lit]
theorem tcell_length (t : Tok) : (tcell t).length = 3 := rfl
theorem tcell_one (t : Tok) : ∀ u ∈ tcell t, u.oneCell' = true := by intro u hu; simp [tcell] at hu; rcases hu with rfl | rfl | rfl <;> rfl
/-- The token at a place. -/
def tokAt (s : ByteArray) (i : Nat) : Tok := if 3 ≤ (found s i).1 then ⟨(found s i).1, (found s i).2, 0⟩ else ⟨0, 0, (byt s i).toNat⟩
def stepAt (s : ByteArray) (i : Nat) : Nat := if 3 ≤ (found s i).1 then (found s i).1 else 1
/-- The tokens from a place on. -/
def parseN (s : ByteArray) : Nat → Nat → List Tok
  | 0, _ => []
  | f + 1, i => if i < s.size then tokAt s i :: parseN s f (i + stepAt s i) else []
def parse (s : ByteArray) : List Tok := parseN s s.size 0
theorem parseN_end {s : ByteArray} {f i : Nat} (h : s.size ≤ i) : parseN s f i = [] := by
  cases f with
  | zero => rfl
  | succ f => rw [parseN, if_neg (by omega)]
theorem found_is (s : ByteArray) (i : Nat) : found s i = best s i (min i 4096) ∧ 3 ≤ (found s i).1 ∨ found s i = (0, 0) := by
  unfold found trim
  split
  · next h => exact .inl ⟨rfl, h⟩
  · exact .inr rfl
theorem found_comm {s : ByteArray} {i : Nat} (h : 3 ≤ (found s i).1) : 1 ≤ (found s i).2 ∧ (found s i).2 ≤ i ∧ (found s i).2 ≤ 4096 ∧ (found s i).1 ≤ 258 ∧ (found s i).1 = comm s (i - (found s i).2) i := by
  rcases found_is s i with ⟨he, _⟩ | he
  · rw [he] at h ⊢
    have hb := best_far s i (min i 4096)
    have h2 := hb.2.1 (by omega)
    exact ⟨h2.1, by omega, by omega, hb.2.2, h2.2⟩
  · rw [he] at h; simp at h
theorem found_le {s : ByteArray} {i : Nat} (h : 3 ≤ (found s i).1) : i + (found s i).1 ≤ s.size := by
  have hc := (found_comm h).2.2.2.2
  have := comm_get (s := s) (a := i - (found s i).2) (b := i) (j := (found s i).1 - 1) (by omega)
  omega
theorem stepAt_pos (s : ByteArray) (i : Nat) : 1 ≤ stepAt s i := by unfold stepAt; split <;> omega
theorem stepAt_le {s : ByteArray} {i : Nat} (hi : i < s.size) : i + stepAt s i ≤ s.size := by
  unfold stepAt
  split
  · next h => exact found_le h
  · omega
theorem parseN_more {s : ByteArray} : ∀ {f f' i : Nat}, s.size ≤ i + f → f ≤ f' → parseN s f' i = parseN s f i := by
  intro f
  induction f with
  | zero => intro f' i h _; rw [parseN_end (by omega)]; rfl
  | succ f ih =>
    intro f' i h hf
    obtain ⟨f', rfl⟩ : ∃ g, f' = g + 1 := ⟨f' - 1, by omega⟩
    rw [parseN, parseN]
    split
    · have := stepAt_pos s i
      rw [ih (by omega) (by omega)]
    · rfl
theorem parseN_length (s : ByteArray) : ∀ f i, i ≤ s.size → (parseN s f i).length ≤ s.size - i := by
  intro f
  induction f with
  | zero => intro i _; simp [parseN]
  | succ f ih =>
    intro i h
    rw [parseN]
    split
    · next hi =>
      have h1 := ih _ (stepAt_le hi)
      have h2 := stepAt_pos s i
      simp only [List.length_cons]
      omega
    · simp
theorem parse_length (s : ByteArray) : (parse s).length ≤ s.size := by
  have := parseN_length s s.size 0 (by omega)
  unfold parse
  omega
end Go.Proofs.Yteblnmealnmipaa
