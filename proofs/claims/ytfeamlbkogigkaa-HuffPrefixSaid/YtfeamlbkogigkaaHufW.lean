/-
  huff: the walk of the examples.
-/
import Derived.Test.YtfeamlbkogigkaaHufV
namespace Go.Proofs.Ytfeamlbkogigkaa
open Go.RowKit

set_option maxRecDepth 100000 in
set_option maxHeartbeats 3200000 in
theorem awake_any (w : World) : Calls Try.prog 13 #[] w (Ret fun r w' => r = .bool true ∧ Own w w' []) := by
  go_enter Try.func13, Try.ntmps13
  go_wp2_with fail
  have H := (Own.start w).made (nums [1, 1, 2, 4]) 3 1 4 rfl (by decide)
  refine (lengths_any (F := [1, 1, 2, 4]) (L := 15) H.rd (by omega)).mono ?_
  rintro e w1 ⟨_, rfl, o1, rfl, H1⟩
  rw [ex1.1]
  rw [ex1.2] at H1
  have H : Own w w1 [slc 3 1 o1 4 (nums [3, 3, 2, 1])] := H.drop.join H1
  clear H1
  obtain ⟨p1, q1, rfl, -⟩ := H.rd.shape
  go_wp2_with fail
  have H2 := H.made (nums [1, 1, 2, 4]) 3 1 4 rfl (by decide)
  refine (lengths_any (F := [1, 1, 2, 4]) (L := 2) H2.rd (by omega)).mono ?_
  rintro e w2 ⟨_, rfl, o2, rfl, H1⟩
  rw [ex2.1]
  rw [ex2.2] at H1
  have H : Own w w2 [slc 3 1 o2 4 (nums [2, 2, 2, 2]), slc 3 1 (.slice p1 4 q1) 4 (nums [3, 3, 2, 1])] := H2.drop.join H1
  clear H1 H2
  obtain ⟨p2, q2, rfl, -⟩ := H.rd.shape
  go_wp2_with fail
  have H2 := H.made (nums [3, 3, 2, 1]) 3 1 4 rfl (by decide)
  refine (codes_any (F := [3, 3, 2, 1]) H2.rd (by omega)).mono ?_
  rintro e w3 ⟨_, rfl, o3, rfl, H1⟩
  rw [ex3.1]
  rw [ex3.2] at H1
  have H : Own w w3 [slc 3 1 o3 4 (nums [6, 7, 2, 0]), slc 3 1 (.slice p2 4 q2) 4 (nums [2, 2, 2, 2]), slc 3 1 (.slice p1 4 q1) 4 (nums [3, 3, 2, 1])] := H2.drop.join H1
  clear H1 H2
  obtain ⟨p3, q3, rfl, -⟩ := H.rd.shape
  go_wp2_with fail
  have H2 := H.made (nums [3, 3, 2, 1]) 3 1 4 rfl (by decide)
  refine (same_any [3, 3, 2, 1] [3, 3, 2, 1] _ (H2.front 3 rfl).rd H2.rd).mono ?_
  rintro e w4 ⟨_, rfl, rfl, H1⟩
  have H := H2.drop.join H1
  clear H1 H2
  rw [show decide (([3, 3, 2, 1] : List Int) = [3, 3, 2, 1]) = true by decide]
  go_wp2_with fail
  have H2 := H.made (nums [2, 2, 2, 2]) 3 1 4 rfl (by decide)
  refine (same_any [2, 2, 2, 2] [2, 2, 2, 2] _ (H2.front 2 rfl).rd H2.rd).mono ?_
  rintro e w5 ⟨_, rfl, rfl, H1⟩
  have H := H2.drop.join H1
  clear H1 H2
  rw [show decide (([2, 2, 2, 2] : List Int) = [2, 2, 2, 2]) = true by decide]
  go_wp2_with fail
  have H2 := H.made (nums [6, 7, 2, 0]) 3 1 4 rfl (by decide)
  refine (same_any [6, 7, 2, 0] [6, 7, 2, 0] _ (H2.front 1 rfl).rd H2.rd).mono ?_
  rintro e w6 ⟨_, rfl, rfl, H1⟩
  have H := H2.drop.join H1
  clear H1 H2
  rw [show decide (([6, 7, 2, 0] : List Int) = [6, 7, 2, 0]) = true by decide]
  go_wp2_with fail
  go_ret
  exact ⟨_, rfl, rfl, H.bare⟩
end Go.Proofs.Ytfeamlbkogigkaa
