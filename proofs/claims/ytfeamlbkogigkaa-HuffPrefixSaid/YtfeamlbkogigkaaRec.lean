/-
  Rows of structs: lists of things of k cells each. No program in sight.
-/
import Derived.Test.YtfeamlbkogigkaaRow
import Derived.Test.YtfeamlbkogigkaaSt2
namespace Go.Proofs.Ytfeamlbkogigkaa
open Go.RowKit

section
variable {α : Type} (f : α → List Value) {k : Nat}
def rows (l : List α) : List Value := l.flatMap f
theorem rows_cons (x : α) (l : List α) : rows f (x :: l) = f x ++ rows f l := rfl
theorem rows_append (a b : List α) : rows f (a ++ b) = rows f a ++ rows f b := by simp [rows]
theorem rows_nil : rows f [] = [] := rfl
theorem rows_one (x : α) : rows f [x] = f x := by simp [rows]
variable (hf : ∀ x, (f x).length = k)
include hf
theorem rows_length (l : List α) : (rows f l).length = l.length * k := by
  induction l with
  | nil => simp [rows]
  | cons x l ih => rw [rows_cons, List.length_append, ih, hf, List.length_cons, Nat.add_mul]; omega
theorem rows_drop (l : List α) (i : Nat) : (rows f l).drop (i * k) = rows f (l.drop i) := by
  induction l generalizing i with
  | nil => simp [rows]
  | cons x l ih =>
    cases i with
    | zero => simp
    | succ i =>
      rw [rows_cons, List.drop_succ_cons, ← ih, Nat.add_mul, Nat.one_mul, Nat.add_comm, ← List.drop_drop, List.drop_left' (hf x)]
theorem rows_take (l : List α) (i : Nat) : (rows f l).take (i * k) = rows f (l.take i) := by
  induction l generalizing i with
  | nil => simp [rows]
  | cons x l ih =>
    cases i with
    | zero => simp [rows]
    | succ i =>
      rw [rows_cons, List.take_succ_cons, rows_cons, ← ih, Nat.add_mul, Nat.one_mul, Nat.add_comm, ← hf x, List.take_length_add_append]
theorem rows_get {l : List α} {i : Nat} {x : α} (h : l[i]? = some x) (j : Nat) (hj : j < k) : (rows f l)[i * k + j]? = (f x)[j]? := by
  rw [← List.getElem?_drop, rows_drop f hf]
  obtain ⟨hi, rfl⟩ := List.getElem?_eq_some_iff.1 h
  rw [List.drop_eq_getElem_cons hi, rows_cons, List.getElem?_append_left (by rw [hf]; exact hj)]
theorem rows_set {l : List α} {i : Nat} (hi : i < l.length) (y : α) : rows f (l.set i y) = (rows f l).take (i * k) ++ f y ++ (rows f l).drop (i * k + k) := by
  rw [List.set_eq_take_append_cons_drop, if_pos hi, rows_append, rows_cons, rows_take f hf, List.append_assoc]
  congr 2
  rw [show i * k + k = (i + 1) * k by rw [Nat.add_mul, Nat.one_mul], rows_drop f hf]
end

section
variable {w0 w w' : World} {ps : List Piece} {e : TypeId} {size n : Nat} {v : Value} {xs : List Value}
variable {P : Program} {ty : TypeId} {ops : Array Oper} {rest : List Oper} {o : Oper} {a : Act} {Q : Exit → Act → World → Prop}
/-- A store of a whole element. -/
theorem wpList_store_elem (hgd : o.guard = none) (x y : Operand) (ho : o.op = .store ty x y) {g i c : Nat} (hx : a.eval x = .pointer (some ⟨g, i * size, none⟩))
    (H : Own w0 w (slc e size (.slice (some ⟨g, 0, none⟩) n c) n xs :: ps)) (vs : List Value) (hv : (a.eval y).cells.toList = vs) (hi : (P.info? ty).map (·.size) = some vs.length) (hl : vs.length = size) (hj : i < n) (h1 : ∀ u ∈ vs, u.oneCell' = true)
    (h : ∀ w', Own w0 w' (slc e size (.slice (some ⟨g, 0, none⟩) n c) n (xs.take (i * size) ++ vs ++ xs.drop (i * size + size)) :: ps) → wpList P ops Q rest (a.put o.dst undef) w') : wpList P ops Q (o :: rest) a w := by
  rcases H.slc_cases with ⟨hn, _⟩ | ⟨g', cap, cur, he, hxl, c1, c2, c3, c4, h5⟩
  · cases hn
  · cases he
    have h3 := Nat.mul_le_mul_right size c1
    have h4 : (i + 1) * size ≤ n * size := Nat.mul_le_mul_right size hj
    rw [Nat.add_mul, Nat.one_mul] at h4
    refine wpList_store_blk hgd x y ho hx h5 vs hv hi (by omega) h1 _ rfl fun w' h' => h w' ?_
    have hcl : cur.toList.length = cur.size := by simp
    refine h'.slc_mk (by simp only [List.length_append, List.length_take, List.length_drop]; omega) c1 c2 ?_ ?_
    · simp only [List.size_toArray, List.length_append, List.length_take, List.length_drop]; omega
    · rw [← c4, List.take_append, List.take_append, List.take_take, List.take_take, List.drop_take]
      simp only [List.length_take, List.length_append, Nat.min_eq_left (show i * size ≤ n * size by omega)]
      rw [show min (i * size) cur.toList.length = i * size by omega, List.take_of_length_le (l := vs) (by omega), hl, show min (n * size) (i * size) = i * size by omega]
end
theorem Own.slc_take {w0 w : World} {ps : List Piece} {e : TypeId} {size n k g c : Nat} {xs : List Value} (h : Own w0 w (slc e size (.slice (some ⟨g, 0, none⟩) n c) n xs :: ps)) (hk : k ≤ n) :
    Own w0 w (slc e size (.slice (some ⟨g, 0, none⟩) k c) k (xs.take (k * size)) :: ps) := by
  rcases h.slc_cases with ⟨hv, _⟩ | ⟨g', cap, cur, hv, hl, h1, h2, h3, h4, h5⟩
  · cases hv
  · cases hv
    have h6 := Nat.mul_le_mul_right size hk
    refine h5.slc_mk (by rw [List.length_take, hl]; omega) (by omega) h2 h3 ?_
    rw [← h4, List.take_take, Nat.min_eq_left h6]
end Go.Proofs.Ytfeamlbkogigkaa
