/-
  A store to a cell of a slice of the call's own, its elements of any width. No program in sight.
-/
import Derived.Test.YtfeamlbkogigkaaSt
namespace Go.Proofs.Ytfeamlbkogigkaa
open Go.RowKit

section
variable {w0 w w' : World} {p q : Piece} {ps qs : List Piece} {e : TypeId} {size n : Nat} {v : Value} {xs : List Value}
variable {P : Program} {t ty : TypeId} {ops : Array Oper} {rest : List Oper} {o : Oper} {a : Act} {Q : Exit → Act → World → Prop}

theorem wpList_store_slcN (hgd : o.guard = none) (x y : Operand) (ho : o.op = .store ty x y) {g j c : Nat} (hx : a.eval x = .pointer (some ⟨g, j, none⟩))
    (H : Own w0 w (slc e size (.slice (some ⟨g, 0, none⟩) n c) n xs :: ps)) (u : Value) (hv : (a.eval y).cells.toList = [u]) (hi : (P.info? ty).map (·.size) = some 1) (hj : j < n * size) (h1 : u.oneCell' = true)
    (h : ∀ w', Own w0 w' (slc e size (.slice (some ⟨g, 0, none⟩) n c) n (xs.set j u) :: ps) → wpList P ops Q rest (a.put o.dst undef) w') : wpList P ops Q (o :: rest) a w := by
  rcases H.slc_cases with ⟨hn, _⟩ | ⟨g', cap, cur, he, hl, c1, c2, c3, c4, h5⟩
  · cases hn
  · cases he
    have hle := Nat.mul_le_mul_right size c1
    refine wpList_store_blk hgd x y ho hx h5 [u] hv hi (by simp; omega) (by simpa using h1) _ rfl fun w' h' => h w' ?_
    refine h'.slc_mk (by simpa using hl) c1 c2 ?_ ?_
    · simp; omega
    · have hlen : j < cur.toList.length := by simp; omega
      have hset : cur.toList.take j ++ [u] ++ cur.toList.drop (j + [u].length) = cur.toList.set j u := by
        rw [List.set_eq_take_append_cons_drop, if_pos hlen]; simp
      rw [hset, List.toList_toArray, List.take_set, ← c4]
end
end Go.Proofs.Ytfeamlbkogigkaa
