/-
  Rows that are read, cell by cell; texts. No program in sight.
-/
import Derived.Test.YtfeamlbkogigkaaSld
namespace Go.Proofs.Ytfeamlbkogigkaa
open Go.RowKit

section
variable {w w0 w' : World} {size n : Nat} {xs : List Value} {v : Value} {ps : List Piece}
theorem Rd.cell {b o c j : Nat} {u : Value} (h : Rd w size (.slice (some ⟨b, o, none⟩) n c) n xs) (hu : xs[j]? = some u) : w.cell? ⟨b, o + j, none⟩ = some u := by
  obtain ⟨_, a, c, e, _, _, _, h4⟩ := h
  cases e
  rw [← Addr.add_lit]
  exact h4 _ rfl j u hu
theorem Rd.some (h : Rd w size v n xs) (hn : 0 < xs.length) : ∃ b o c, v = .slice (some ⟨b, o, none⟩) n c ∧ n ≤ c ∧ c ≤ 9223372036854775807 := by
  obtain ⟨b, o, c, e, h1, h2, _⟩ := h.at hn
  exact ⟨b, o, c, e, h1, h2⟩
end

/-- Texts, as cells. -/
def txs (l : List ByteArray) : List Value := l.map .string
theorem txs_length (l : List ByteArray) : (txs l).length = l.length := by simp [txs]
theorem txs_get {l : List ByteArray} {k : Nat} {s : ByteArray} (h : l[k]? = some s) : (txs l)[k]? = some (.string s) := by simp [txs, h]
/-- Ints, as cells. -/
def nums (l : List Int) : List Value := l.map (.int .i64)
theorem nums_length (l : List Int) : (nums l).length = l.length := by simp [nums]
theorem nums_get {l : List Int} {k : Nat} {s : Int} (h : l[k]? = some s) : (nums l)[k]? = some (.int .i64 s) := by simp [nums, h]
theorem get_of_lt {α : Type _} {l : List α} {k : Nat} (h : k < l.length) : ∃ x, l[k]? = some x := ⟨l[k], List.getElem?_eq_getElem h⟩
theorem take_eq_succ {α : Type _} {a b : List α} {k : Nat} {x y : α} (ha : a[k]? = some x) (hb : b[k]? = some y) : a.take (k + 1) = b.take (k + 1) ↔ a.take k = b.take k ∧ x = y := by
  have hla := (List.getElem?_eq_some_iff.1 ha).1
  have hlb := (List.getElem?_eq_some_iff.1 hb).1
  rw [List.take_add_one, List.take_add_one, ha, hb, Option.toList_some, Option.toList_some]
  constructor
  · intro h
    have := List.append_inj h (by simp; omega)
    exact ⟨this.1, by simpa using this.2⟩
  · rintro ⟨h1, rfl⟩
    rw [h1]
theorem loopL (b : ByteArray) : ∀ (k i : Nat) (r : List UInt8), i + k = b.size → ByteArray.toList.loop b i r = r.reverse ++ b.data.toList.drop i := by
  intro k
  induction k with
  | zero =>
    intro i r h
    rw [ByteArray.toList.loop]
    have : b.data.toList.length ≤ i := by simp; exact (by show b.size ≤ i; omega)
    rw [if_neg (by omega), List.drop_eq_nil_of_le this, List.append_nil]
  | succ k ih =>
    intro i r h
    rw [ByteArray.toList.loop, if_pos (by omega), ih (i + 1) _ (by omega)]
    have hl : i < b.data.toList.length := by simp; exact (by show i < b.size; omega)
    rw [List.drop_eq_getElem_cons hl]
    have hg : b.get! i = b.data.toList[i] := by
      show b.data[i]! = _
      rw [getElem!_pos b.data i (by simpa using hl)]
      simp
    simp [hg]
theorem str_data (b : ByteArray) : b.toList = b.data.toList := by
  rw [ByteArray.toList, loopL b b.size 0 [] (by omega)]
  simp
theorem str_inj {a b : ByteArray} (h : a.toList = b.toList) : a = b := by
  rw [str_data, str_data] at h
  exact ByteArray.ext (Array.toList_inj.1 h)
/-- Go's '==' on texts, as the walk has it. -/
theorem str_eq (a b : ByteArray) : (a.toList == b.toList) = decide (a = b) := by
  by_cases h : a = b
  · subst h; simp
  · simp only [h, decide_false, beq_eq_false_iff_ne, ne_eq]
    exact fun e => h (str_inj e)
end Go.Proofs.Ytfeamlbkogigkaa
