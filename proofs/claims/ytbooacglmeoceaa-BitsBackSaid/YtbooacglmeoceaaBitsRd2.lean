/-
  Bits: the walks of the reader: Text, New.
-/
import Derived.Test.YtbooacglmeoceaaBitsRd
namespace Go.Proofs.Ytbooacglmeoceaa
open Go.RowKit

set_option maxHeartbeats 400000 in
theorem new_any {w0 w : World} {ps : List Piece} (s : ByteArray) (H : Own w0 w ps) :
    Calls Try.prog 14 #[.string s] w (Ret fun v w' => ∃ g, v = .pointer (some ⟨g, 0, none⟩) ∧ Own w0 w' (Rdr g s 0 :: ps)) := by
  go_enter Try.func14, Try.ntmps14
  go_wp2
  go_ret
  exact ⟨_, rfl, _, rfl, H.alloc _⟩

set_option maxHeartbeats 400000 in
theorem rdtext_yes {w0 w : World} {ps : List Piece} {g : Nat} {s : ByteArray} {n : Nat} (m : Nat) (H : Own w0 w (Rdr g s n :: ps)) (hs : s.size ≤ 281474976710656) (hm : nbytes n + m ≤ s.size) :
    Calls Try.prog 19 #[.pointer (some ⟨g, 0, none⟩), .int .i64 m] w (Ret fun v w' => v = .tuple #[.string (s.extract (nbytes n) (nbytes n + m)), .bool true] ∧ Own w0 w' (Rdr g s (8 * (nbytes n + m)) :: ps)) := by
  obtain ⟨z, hz⟩ : ∃ z, Hid (s.size = z) := ⟨_, rfl⟩
  obtain ⟨q, hq⟩ : ∃ q, Hid (q = nbytes n) := ⟨_, Lib.hid rfl⟩
  rw [← hq.out] at hm ⊢
  have hmz : q + m ≤ z := by rw [← hz.out]; exact hm
  have hz3 : z ≤ 281474976710656 := by rw [← hz.out]; exact hs
  have hqt : ((n : Int) + 7).tdiv 8 = (q : Int) := by have := hq.out; unfold nbytes at this; rw [Int.tdiv_eq_ediv_of_nonneg (by omega)]; omega
  have hqt' : ((n : Int) + 7) / 8 = (q : Int) := by have := hq.out; unfold nbytes at this; omega
  have hn : n ≤ 2251799813685248 := by have := hq.out; unfold nbytes at this; omega
  have hle : (m : Int) ≤ (s.size : Int) - (q : Int) := by have := hz.out; omega
  have h8 : Hid (8 * ((q : Int) + (m : Int)) = ((8 * (q + m) : Nat) : Int)) := Lib.hid (by omega)
  unfold Rdr at H
  have c0 := H.cells
  go_enter Try.func19, Try.ntmps19
  go_wp2_with (refine wpList_store_int rfl _ _ rfl rfl H rfl (by kernel_rfl) (by simp) ?_; clear H c0; intro w3 H; have c0 := H.cells)
  go_ret2
  refine ⟨_, rfl, rfl, ?_⟩
  rw [h8.out] at H
  simpa [Rdr] using H

set_option maxHeartbeats 400000 in
theorem rdtext_no {w0 w : World} {ps : List Piece} {g : Nat} {s : ByteArray} {n : Nat} (m : Int) (hm1 : -9223372036854775808 ≤ m) (hm2 : m ≤ 9223372036854775807) (H : Own w0 w (Rdr g s n :: ps)) (hs : s.size ≤ 281474976710656) (hn : n ≤ 2251799813685248) (hno : m < 0 ∨ (s.size : Int) - nbytes n < m) :
    Calls Try.prog 19 #[.pointer (some ⟨g, 0, none⟩), .int .i64 m] w (Ret fun v w' => v = .tuple #[.string ByteArray.empty, .bool false] ∧ Own w0 w' (Rdr g s n :: ps)) := by
  obtain ⟨q, hq⟩ : ∃ q, Hid (q = nbytes n) := ⟨_, Lib.hid rfl⟩
  rw [← hq.out] at hno
  have hqt : ((n : Int) + 7).tdiv 8 = (q : Int) := by have := hq.out; unfold nbytes at this; rw [Int.tdiv_eq_ediv_of_nonneg (by omega)]; omega
  have hqt' : ((n : Int) + 7) / 8 = (q : Int) := by have := hq.out; unfold nbytes at this; omega
  have hqb : q ≤ 281474976710656 := by have := hq.out; unfold nbytes at this; omega
  have H0 := H
  unfold Rdr at H
  have c0 := H.cells
  go_enter Try.func19, Try.ntmps19
  by_cases h1 : m < 0
  · go_wp2
    go_ret2
    exact ⟨_, rfl, rfl, H0⟩
  have h2 : (s.size : Int) - (q : Int) < m := by omega
  clear hno
  go_wp2
  go_ret2
  exact ⟨_, rfl, rfl, H0⟩
end Go.Proofs.Ytbooacglmeoceaa
