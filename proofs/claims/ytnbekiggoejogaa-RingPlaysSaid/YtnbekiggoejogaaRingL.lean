/-
  Queues: the walks of the law's own functions: awake, all, RingNone.
-/
import Derived.Test.YtnbekiggoejogaaRingN
import Derived.Test.YtnbekiggoejogaaRingS
import Derived.Test.YtnbekiggoejogaaDueQ
import Derived.Test.YtnbekiggoejogaaDueSQ
import Derived.Test.YtnbekiggoejogaaSameI
namespace Go.Proofs.Ytnbekiggoejogaa
open Go.RowKit

set_option maxHeartbeats 1600000 in
theorem awake_any (w : World) : Calls Try.prog 12 #[] w (Ret fun v w' => v = .bool true ∧ Own w w' []) := by
  go_enter Try.func12, Try.ntmps12
  go_wp2_with fail
  refine (RingInt.new_any 2 (Own.start w)).mono ?_
  rintro e w1 ⟨_, rfl, g, rfl, H⟩
  rw [show (min (max (2 : Int) 0) 65536).toNat = 2 by decide] at H
  go_wp2_with fail
  refine (RingInt.push_room 1 H (by decide) (by decide)).mono ?_
  rintro e w2 ⟨_, rfl, rfl, H2⟩
  go_wp2_with fail
  refine (RingInt.push_room 2 H2 (by decide) (by decide)).mono ?_
  rintro e w3 ⟨_, rfl, rfl, H3⟩
  go_wp2_with fail
  refine (RingInt.push_full 3 H3 (by decide)).mono ?_
  rintro e w4 ⟨_, rfl, rfl, H4⟩
  go_wp2_with fail
  refine (RingInt.pop_some (y := 1) (q := [2]) H4 (by decide)).mono ?_
  rintro e w5 ⟨_, rfl, rfl, H5⟩
  clear H H2 H3 H4
  go_upto_region 5 with (fail)
  have H6 := DueStr.dnew H5
  obtain ⟨gd, hgd⟩ : ∃ g, w5.heap.size = g := ⟨_, rfl⟩
  rw [hgd] at H6 ⊢
  generalize World.alloc w5 _ = w6 at *
  clear hgd H5
  go_wp2_with fail
  refine (DueStr.dput_any 5 ⟨#[97]⟩ H6 (by decide) (by decide)).mono ?_
  rintro e w7 ⟨_, rfl, H7⟩
  go_wp2_with fail
  refine (DueStr.dput_any 3 ⟨#[98]⟩ H7 (by decide) (by decide)).mono ?_
  rintro e w8 ⟨_, rfl, H8⟩
  go_wp2_with fail
  refine (DueStr.dput_any 3 ⟨#[99]⟩ H8 (by decide) (by decide)).mono ?_
  rintro e w9 ⟨_, rfl, H9⟩
  have H9 : Own w w9 [DueStr.Dq gd [⟨5, 0, ⟨#[97]⟩⟩, ⟨3, 1, ⟨#[98]⟩⟩, ⟨3, 2, ⟨#[99]⟩⟩] 3, RingInt.Rg g 2 [2]] := H9
  clear H6 H7 H8
  go_wp2_with fail
  refine (DueStr.dnext_yes (j := 1) 4 H9 rfl (by intro y hy; simp at hy; rcases hy with rfl | rfl | rfl <;> simp [It.lt]) (by simp) (by decide) (by decide)).mono ?_
  rintro e w10 ⟨_, rfl, rfl, H10⟩
  have H10 : Own w w10 [DueStr.Dq gd [⟨5, 0, ⟨#[97]⟩⟩, ⟨3, 2, ⟨#[99]⟩⟩] 3, RingInt.Rg g 2 [2]] := H10
  clear H9
  go_wp2_with fail
  refine (DueStr.dnext_yes (j := 1) 4 H10 rfl (by intro y hy; simp at hy; rcases hy with rfl | rfl <;> simp [It.lt]) (by simp) (by decide) (by decide)).mono ?_
  rintro e w11 ⟨_, rfl, rfl, H11⟩
  have H11 : Own w w11 [DueStr.Dq gd [⟨5, 0, ⟨#[97]⟩⟩] 3, RingInt.Rg g 2 [2]] := H11
  clear H10
  go_wp2_with fail
  refine (DueStr.dnext_no 4 H11 (by intro y hy; simp at hy; subst hy; decide) (by decide)).mono ?_
  rintro e w12 ⟨_, rfl, rfl, H12⟩
  go_wp2
  go_ret
  exact ⟨_, rfl, rfl, H12.bare⟩

set_option maxHeartbeats 1600000 in
theorem none_any (i : Int) (w : World) : Calls Try.prog 7 #[.int .i64 i] w (Ret fun v w' => v = .bool true ∧ Own w w' []) := by
  go_enter Try.func7, Try.ntmps7
  go_wp2_with fail
  refine (DueInt.put_nil i i w).mono ?_
  rintro e w1 ⟨_, rfl, rfl⟩
  go_wp2_with fail
  refine (RingInt.pop_nil _).mono ?_
  rintro e w2 ⟨rfl, rfl⟩
  go_wp2_with fail
  refine (RingInt.at_nil i _).mono ?_
  rintro e w3 ⟨rfl, rfl⟩
  go_wp2_with fail
  refine (DueInt.next_nil i _).mono ?_
  rintro e w4 ⟨rfl, rfl⟩
  go_wp2_with fail
  refine (RingInt.push_nil i _).mono ?_
  rintro e w5 ⟨_, rfl, rfl, H⟩
  go_wp2_with fail
  refine (RingInt.rlen_nil _).mono ?_
  rintro e w6 ⟨rfl, rfl⟩
  go_wp2_with fail
  refine (DueInt.duelen_nil _).mono ?_
  rintro e w7 ⟨rfl, rfl⟩
  go_wp2_with fail
  refine (RingInt.new_any (-1) H).mono ?_
  rintro e w8 ⟨_, rfl, g, rfl, H8⟩
  go_wp2_with fail
  refine (RingInt.push_full i H8 (by decide)).mono ?_
  rintro e w9 ⟨_, rfl, rfl, H9⟩
  go_wp2_with fail
  refine (awake_any _).mono ?_
  rintro e w10 ⟨_, rfl, rfl, H10⟩
  go_wp2
  go_ret
  exact ⟨_, rfl, rfl, (H9.join H10).bare⟩

theorem cells_nums (l : List Int) : RingInt.cells l = nums l := rfl
set_option maxHeartbeats 800000 in
theorem all_any {w0 w : World} {ps : List Piece} {g size : Nat} {q : List Int} (H : Own w0 w (RingInt.Rg g size q :: ps)) (hs : size ≤ 1000000) (hq : q.length ≤ 100000) :
    Calls Try.prog 19 #[.pointer (some ⟨g, 0, none⟩)] w (Ret fun v w' => Own w0 w' (slc 3 1 v q.length (nums q) :: RingInt.Rg g size q :: ps)) := by
  go_enter Try.func19, Try.ntmps19
  go_wp2_with fail
  go_loopw [3, 4] (fun v i wr => ∃ k : Nat, k ≤ q.length ∧ i = .int .i64 k ∧ Own w0 wr (slc 3 1 v k (nums (q.take k)) :: RingInt.Rg g size q :: ps)) (fun _ i _ => q.length - (intOf i).toNat)
  case atStart => exact ⟨0, Nat.zero_le _, rfl, H.nil _ _⟩
  case round =>
    clear H
    obtain ⟨k, hk, rfl, H⟩ := hrel
    obtain ⟨n, hn⟩ : ∃ n, Hid (q.length = n) := ⟨_, rfl⟩
    rw [hn.out] at hk hq
    go_wp2_with fail
    refine (RingInt.rlen_any H.swap).mono ?_
    rintro e w1 ⟨rfl, rfl⟩
    rw [hn.out]
    by_cases hlt : k < n
    · obtain ⟨s, hsk⟩ := get_of_lt (l := q) (k := k) (by rw [hn.out]; exact hlt)
      have hnx : Hid (nums (q.take (k + 1)) = nums (q.take k) ++ [.int .i64 s]) := Lib.hid (by rw [List.take_add_one, hsk]; simp [nums])
      have HS := Lib.hid hsk
      clear hsk
      go_wp2_with fail
      refine (RingInt.at_yes H.swap HS.out hs).mono ?_
      rintro e w2 ⟨_, rfl, rfl, H2⟩
      clear H
      go_wp2_with (refine wpList_append_one rfl _ _ rfl Try.underlying28 RingInt.info rfl (by decide) rfl H2.swap (news := [.int .i64 s]) rfl rfl rfl (by intro u hu; simp at hu; subst hu; rfl) (by omega) (by omega) ?_; intro v5 w5 H5)
      go_roundw
      case rel => exact ⟨k + 1, by rw [hn.out]; omega, by go_num, by rw [hnx.out]; exact H5⟩
      case measure => rw [hn.out]; simp [intOf]; omega
    · obtain rfl : k = n := by omega
      have htk : Hid (q.take k = q) := Lib.hid (List.take_of_length_le (by rw [hn.out]; exact Nat.le_refl _))
      go_wp2
      go_ret
      rw [htk.out] at H
      exact ⟨_, rfl, by rw [hn.out]; exact H⟩
end Go.Proofs.Ytnbekiggoejogaa
