/-
  What is due at times: the heap's contracts, by what is waiting.
-/
import Derived.Test.YtnpflnplpipipaaDuePN
namespace Go.Proofs.Ytnpflnplpipipaa
open Go.RowKit

namespace DueP
/-- What is waiting: M, in whatever order it lies; how many were put. -/
def Dq (qA qB qC qE : Value) (g : Nat) (M : List (It (Int × ByteArray))) (k : Nat) : Piece := ex fun m : List (It (Int × ByteArray)) => star (Du qA qB qC qE g m k) (fact (Heap m ∧ m.Perm M))
theorem dq_open {w0 w : World} {ps : List Piece} {qA qB qC qE : Value} {g k : Nat} {M : List (It (Int × ByteArray))} (h : Own w0 w (Dq qA qB qC qE g M k :: ps)) : ∃ m, Heap m ∧ m.Perm M ∧ Own w0 w (Du qA qB qC qE g m k :: ps) := by
  obtain ⟨m, h⟩ := h.ex
  obtain ⟨⟨h1, h2⟩, h⟩ := h.star.swap.fact
  exact ⟨m, h1, h2, h⟩
theorem dq_shut {w0 w : World} {ps : List Piece} {qA qB qC qE : Value} {g k : Nat} {m M : List (It (Int × ByteArray))} (h1 : Heap m) (h2 : m.Perm M) (h : Own w0 w (Du qA qB qC qE g m k :: ps)) : Own w0 w (Dq qA qB qC qE g M k :: ps) :=
  Own.unex (f := fun m : List (It (Int × ByteArray)) => Go.Proofs.Ytnpflnplpipipaa.star (Du qA qB qC qE g m k) (Go.Proofs.Ytnpflnplpipipaa.fact (Heap m ∧ m.Perm M))) m ((h.unfact ⟨h1, h2⟩).swap.unstar)
theorem dnew {w0 w : World} {ps : List Piece} {qA qB qC qE : Value} {g : Nat} (h : Own w0 w (blk g (.cells #[qA, qB, qC, qE, .slice none 0 0, .int .i64 0] 54) :: ps)) : Own w0 w (Dq qA qB qC qE g [] 0 :: ps) := by
  refine dq_shut (m := []) (fun j _ hj => absurd hj (by simp)) (List.Perm.refl _) ?_
  refine Own.unex (f := fun v : Value => Go.Proofs.Ytnpflnplpipipaa.star (blk g (.cells #[qA, qB, qC, qE, v, .int .i64 ((0 : Nat) : Int)] 54)) (slc 73 4 v 0 (rows icell []))) (.slice none 0 0) (Own.unstar ?_)
  exact (h.nil _ _).swap
theorem dlen_any {w0 w : World} {ps : List Piece} {qA qB qC qE : Value} {g k : Nat} {M : List (It (Int × ByteArray))} (H : Own w0 w (Dq qA qB qC qE g M k :: ps)) :
    Calls Try.prog 23 #[.pointer (some ⟨g, 4, none⟩)] w fun e w' => e = .returned (.int .i64 M.length) ∧ w' = w := by
  obtain ⟨m, _, h2, H⟩ := dq_open H
  rw [← h2.length_eq]
  exact duelen_any H
theorem dput_any {w0 w : World} {ps : List Piece} {qA qB qC qE : Value} {g k : Nat} {M : List (It (Int × ByteArray))} (at_ : Int) (x : Int × ByteArray) (H : Own w0 w (Dq qA qB qC qE g M k :: ps)) (hl : M.length ≤ 100000) (hk : k ≤ 1000000000) :
    Calls Try.prog 27 #[.pointer (some ⟨g, 4, none⟩), .int .i64 at_, .agg #[.int .i64 x.1, .string x.2]] w (Ret fun _ w' => Own w0 w' (Dq qA qB qC qE g (M ++ [⟨at_, k, x⟩]) (k + 1) :: ps)) := by
  obtain ⟨m, h1, h2, H⟩ := dq_open H
  refine (put_any at_ x H h1 (by rw [h2.length_eq]; exact hl) hk).mono ?_
  rintro e w' ⟨v, rfl, m', g1, g2, g3⟩
  exact ⟨v, rfl, dq_shut g1 (g2.trans (h2.append_right _)) g3⟩
theorem dnext_no {w0 w : World} {ps : List Piece} {qA qB qC qE : Value} {g k : Nat} {M : List (It (Int × ByteArray))} (now : Int) (H : Own w0 w (Dq qA qB qC qE g M k :: ps)) (hno : ∀ a ∈ M, now < a.at_) (hl : M.length ≤ 1000000) :
    Calls Try.prog 22 #[.pointer (some ⟨g, 4, none⟩), .int .i64 now] w (Ret fun v w' => v = .tuple #[.agg #[.int .i64 0, .string ⟨#[]⟩], .bool false] ∧ Own w0 w' (Dq qA qB qC qE g M k :: ps)) := by
  obtain ⟨m, h1, h2, H⟩ := dq_open H
  refine (next_none now H (fun a ha => hno a (h2.subset (List.mem_of_getElem? ha))) (by rw [h2.length_eq]; exact hl)).mono ?_
  rintro e w' ⟨v, rfl, g1, g2⟩
  exact ⟨v, rfl, g1, dq_shut h1 h2 g2⟩
theorem dnext_yes {w0 w : World} {ps : List Piece} {qA qB qC qE : Value} {g k : Nat} {M : List (It (Int × ByteArray))} {m : It (Int × ByteArray)} {j : Nat} (now : Int) (H : Own w0 w (Dq qA qB qC qE g M k :: ps)) (hj : M[j]? = some m) (hm : ∀ y ∈ M, ¬ y.lt m) (hk : M.Pairwise fun x y => x.k ≠ y.k) (hno : m.at_ ≤ now) (hl : M.length ≤ 1000000) :
    Calls Try.prog 22 #[.pointer (some ⟨g, 4, none⟩), .int .i64 now] w (Ret fun v w' => v = .tuple #[.agg #[.int .i64 m.x.1, .string m.x.2], .bool true] ∧ Own w0 w' (Dq qA qB qC qE g (M.eraseIdx j) k :: ps)) := by
  obtain ⟨l, h1, h2, H⟩ := dq_open H
  have hpos : 0 < l.length := by rw [h2.length_eq]; have := (List.getElem?_eq_some_iff.1 hj).1; omega
  obtain ⟨a, ha⟩ := get_of_lt hpos
  have hal : ∀ y ∈ M, ¬ y.lt a := fun y hy => h1.least ha y (h2.symm.subset hy)
  have hpa : (a :: l.eraseIdx 0).Perm M := (front_perm l 0 a ha).symm.trans h2
  obtain ⟨rfl, _⟩ := least_perm hpa hj hm hal hk
  refine (next_some now H h1 ha hno (by rw [h2.length_eq]; exact hl)).mono ?_
  rintro e w' ⟨v, rfl, g1, m', g2, g3, g4⟩
  exact ⟨v, rfl, g1, dq_shut g2 (least_perm (g3.trans h2) hj hm hal hk).2 g4⟩

end DueP
end Go.Proofs.Ytnpflnplpipipaa
