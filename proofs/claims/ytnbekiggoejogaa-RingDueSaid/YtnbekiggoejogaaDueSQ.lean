/-
  What is due at times: the heap's contracts, by what is waiting.
-/
import Derived.Test.YtnbekiggoejogaaDueSN
namespace Go.Proofs.Ytnbekiggoejogaa
open Go.RowKit

namespace DueStr
/-- What is waiting: M, in whatever order it lies; how many were put. -/
def Dq (g : Nat) (M : List (It ByteArray)) (k : Nat) : Piece := ex fun m : List (It ByteArray) => star (Du g m k) (fact (Heap m ∧ m.Perm M))
theorem dq_open {w0 w : World} {ps : List Piece} {g k : Nat} {M : List (It ByteArray)} (h : Own w0 w (Dq g M k :: ps)) : ∃ m, Heap m ∧ m.Perm M ∧ Own w0 w (Du g m k :: ps) := by
  obtain ⟨m, h⟩ := h.ex
  obtain ⟨⟨h1, h2⟩, h⟩ := h.star.swap.fact
  exact ⟨m, h1, h2, h⟩
theorem dq_shut {w0 w : World} {ps : List Piece} {g k : Nat} {m M : List (It ByteArray)} (h1 : Heap m) (h2 : m.Perm M) (h : Own w0 w (Du g m k :: ps)) : Own w0 w (Dq g M k :: ps) :=
  Own.unex (f := fun m : List (It ByteArray) => Go.Proofs.Ytnbekiggoejogaa.star (Du g m k) (Go.Proofs.Ytnbekiggoejogaa.fact (Heap m ∧ m.Perm M))) m ((h.unfact ⟨h1, h2⟩).swap.unstar)
theorem dnew {w0 w : World} {ps : List Piece} (h : Own w0 w ps) : Own w0 (w.alloc (.cells #[.slice none 0 0, .int .i64 0] 64)) (Dq w.heap.size [] 0 :: ps) := by
  refine dq_shut (m := []) (fun j _ hj => absurd hj (by simp)) (List.Perm.refl _) ?_
  refine Own.unex (f := fun v : Value => Go.Proofs.Ytnbekiggoejogaa.star (blk w.heap.size (.cells #[v, .int .i64 ((0 : Nat) : Int)] 64)) (slc 72 3 v 0 (rows icell []))) (.slice none 0 0) (Own.unstar ?_)
  exact ((h.alloc _).nil _ _).swap
theorem dlen_any {w0 w : World} {ps : List Piece} {g k : Nat} {M : List (It ByteArray)} (H : Own w0 w (Dq g M k :: ps)) :
    Calls Try.prog 30 #[.pointer (some ⟨g, 0, none⟩)] w fun e w' => e = .returned (.int .i64 M.length) ∧ w' = w := by
  obtain ⟨m, _, h2, H⟩ := dq_open H
  rw [← h2.length_eq]
  exact duelen_any H
theorem dput_any {w0 w : World} {ps : List Piece} {g k : Nat} {M : List (It ByteArray)} (at_ : Int) (x : ByteArray) (H : Own w0 w (Dq g M k :: ps)) (hl : M.length ≤ 100000) (hk : k ≤ 1000000000) :
    Calls Try.prog 26 #[.pointer (some ⟨g, 0, none⟩), .int .i64 at_, .string x] w (Ret fun _ w' => Own w0 w' (Dq g (M ++ [⟨at_, k, x⟩]) (k + 1) :: ps)) := by
  obtain ⟨m, h1, h2, H⟩ := dq_open H
  refine (put_any at_ x H h1 (by rw [h2.length_eq]; exact hl) hk).mono ?_
  rintro e w' ⟨v, rfl, m', g1, g2, g3⟩
  exact ⟨v, rfl, dq_shut g1 (g2.trans (h2.append_right _)) g3⟩
theorem dnext_no {w0 w : World} {ps : List Piece} {g k : Nat} {M : List (It ByteArray)} (now : Int) (H : Own w0 w (Dq g M k :: ps)) (hno : ∀ a ∈ M, now < a.at_) (hl : M.length ≤ 1000000) :
    Calls Try.prog 27 #[.pointer (some ⟨g, 0, none⟩), .int .i64 now] w (Ret fun v w' => v = .tuple #[.string ByteArray.empty, .bool false] ∧ Own w0 w' (Dq g M k :: ps)) := by
  obtain ⟨m, h1, h2, H⟩ := dq_open H
  refine (next_none now H (fun a ha => hno a (h2.subset (List.mem_of_getElem? ha))) (by rw [h2.length_eq]; exact hl)).mono ?_
  rintro e w' ⟨v, rfl, g1, g2⟩
  exact ⟨v, rfl, g1, dq_shut h1 h2 g2⟩
theorem dnext_yes {w0 w : World} {ps : List Piece} {g k : Nat} {M : List (It ByteArray)} {m : It ByteArray} {j : Nat} (now : Int) (H : Own w0 w (Dq g M k :: ps)) (hj : M[j]? = some m) (hm : ∀ y ∈ M, ¬ y.lt m) (hk : M.Pairwise fun x y => x.k ≠ y.k) (hno : m.at_ ≤ now) (hl : M.length ≤ 1000000) :
    Calls Try.prog 27 #[.pointer (some ⟨g, 0, none⟩), .int .i64 now] w (Ret fun v w' => v = .tuple #[.string m.x, .bool true] ∧ Own w0 w' (Dq g (M.eraseIdx j) k :: ps)) := by
  obtain ⟨l, h1, h2, H⟩ := dq_open H
  have hpos : 0 < l.length := by rw [h2.length_eq]; have := (List.getElem?_eq_some_iff.1 hj).1; omega
  obtain ⟨a, ha⟩ := get_of_lt hpos
  have hal : ∀ y ∈ M, ¬ y.lt a := fun y hy => h1.least ha y (h2.symm.subset hy)
  have hpa : (a :: l.eraseIdx 0).Perm M := (front_perm l 0 a ha).symm.trans h2
  obtain ⟨rfl, _⟩ := least_perm hpa hj hm hal hk
  refine (next_some now H h1 ha hno (by rw [h2.length_eq]; exact hl)).mono ?_
  rintro e w' ⟨v, rfl, g1, m', g2, g3, g4⟩
  exact ⟨v, rfl, g1, dq_shut g2 (least_perm (g3.trans h2) hj hm hal hk).2 g4⟩

theorem put_nil (at_ : Int) (x : ByteArray) (w : World) : Calls Try.prog 26 #[.pointer none, .int .i64 at_, .string x] w (Ret fun _ w' => w' = w) := by
  go_enter Try.func26, Try.ntmps26
  go_wp2
  go_end0
  exact ⟨_, rfl, rfl⟩
theorem duelen_nil (w : World) : Calls Try.prog 30 #[.pointer none] w fun e w' => e = .returned (.int .i64 0) ∧ w' = w := by
  go_enter Try.func30, Try.ntmps30
  go_wp2
  go_ret
  exact ⟨rfl, rfl⟩
set_option maxRecDepth 100000 in
theorem next_nil (now : Int) (w : World) : Calls Try.prog 27 #[.pointer none, .int .i64 now] w fun e w' => e = .returned (.tuple #[.string ByteArray.empty, .bool false]) ∧ w' = w := by
  go_enter Try.func27, Try.ntmps27
  go_wp2_with fail
  refine (duelen_nil w).mono ?_
  rintro e w1 ⟨rfl, rfl⟩
  go_wp2
  go_ret2
  exact ⟨rfl, rfl⟩
end DueStr
end Go.Proofs.Ytnbekiggoejogaa
