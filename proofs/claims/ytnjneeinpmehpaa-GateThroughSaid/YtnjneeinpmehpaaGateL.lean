/-
  Gates: the walks of the law's own functions: awake, GateNone; Through.
-/
import Derived.Test.YtnjneeinpmehpaaGate
import Derived.Test.YtnjneeinpmehpaaSame
namespace Go.Proofs.Ytnjneeinpmehpaa
open Go.RowKit

set_option maxHeartbeats 800000 in
theorem awake_any (w : World) : Calls Try.prog 13 #[] w (Ret fun v w' => v = .bool true ∧ Own w w' []) := by
  go_enter Try.func13, Try.ntmps13
  go_wp2_with fail
  refine (new_any 2 (Own.start w)).mono ?_
  rintro e w1 ⟨_, rfl, g, rfl, H⟩
  rw [show room 2 = 2 by decide] at H
  go_wp2_with fail
  refine (put_room _ H (by decide)).mono ?_
  rintro e w2 ⟨_, rfl, rfl, H2⟩
  go_wp2_with fail
  refine (put_room _ H2 (by decide)).mono ?_
  rintro e w3 ⟨_, rfl, rfl, H3⟩
  go_wp2_with fail
  refine (put_full _ H3 (by decide)).mono ?_
  rintro e w4 ⟨_, rfl, rfl, H4⟩
  go_wp2_with fail
  refine (get_some _ H4).mono ?_
  rintro e w5 ⟨_, rfl, rfl, H5⟩
  go_wp2_with fail
  refine (put_room _ H5 (by decide)).mono ?_
  rintro e w6 ⟨_, rfl, rfl, H6⟩
  go_wp2_with fail
  refine (drain_any H6 (by decide)).mono ?_
  rintro e w7 ⟨v, rfl, H7⟩
  go_wp2_with fail
  have HM := H7.made [.string ⟨#[98]⟩, .string ⟨#[99]⟩] 9 1 2 rfl (by simp [maxLen])
  refine (sametexts_any [⟨#[98]⟩, ⟨#[99]⟩] [⟨#[98]⟩, ⟨#[99]⟩] _ (by exact (HM.front 1 rfl).drd) (by exact HM.rd)).mono ?_
  rintro e w8 ⟨_, rfl, hv, H8⟩
  obtain rfl := hv.trans (show _ = Value.bool true by simp)
  go_wp2
  go_ret
  exact ⟨_, rfl, rfl, (HM.join H8).bare⟩

set_option maxHeartbeats 800000 in
theorem none_any (size : Int) (hs : -9223372036854775808 ≤ size ∧ size ≤ 9223372036854775807) (s : ByteArray) (w : World) : Calls Try.prog 4 #[.int .i64 size, .string s] w (Ret fun v w' => v = .bool true ∧ Own w w' []) := by
  obtain ⟨hs1, hs2⟩ := hs
  go_enter Try.func4, Try.ntmps4
  go_wp2_with fail
  refine (get_none w).mono ?_
  rintro e w1 ⟨rfl, rfl⟩
  go_wp2_with fail
  refine (shut_none _).mono ?_
  rintro e w2 ⟨_, rfl, rfl⟩
  go_wp2_with fail
  refine (put_none s _).mono ?_
  rintro e w3 ⟨rfl, rfl⟩
  go_wp2_with fail
  refine (len_none _).mono ?_
  rintro e w4 ⟨rfl, rfl⟩
  go_wp2_with fail
  refine (drain_none _).mono ?_
  rintro e w ⟨rfl, rfl⟩
  go_upto_if 40 with (fail)
  go_cut [0] (fun x wx => wx = w ∧ ∃ z : Int, x = .int .i64 z ∧ z ≤ 0)
  case first =>
    by_cases h : size > 0
    · go_wp2
      go_meet
      exact ⟨rfl, _, rfl, by omega⟩
    · go_wp2
      go_meet
      exact ⟨rfl, _, rfl, by omega⟩
  case rest =>
    obtain ⟨rfl, z, rfl, hz⟩ := hcut
    go_wp2_with fail
    refine (new_any z (Own.start _)).mono ?_
    rintro e w1 ⟨_, rfl, g, rfl, H⟩
    rw [show room z = 0 by unfold room; omega] at H
    go_wp2_with fail
    refine (get_empty H).mono ?_
    rintro e w2 ⟨_, rfl, rfl, H2⟩
    go_wp2_with fail
    refine (put_full _ H2 (by decide)).mono ?_
    rintro e w3 ⟨_, rfl, rfl, H3⟩
    go_wp2_with fail
    refine (drain_any H3 (by decide)).mono ?_
    rintro e w4 ⟨v, rfl, H4⟩
    obtain ⟨_, _, rfl, _⟩ := H4.drd.shape
    go_wp2_with fail
    refine (awake_any _).mono ?_
    rintro e w5 ⟨_, rfl, rfl, H5⟩
    go_wp2
    go_ret
    exact ⟨_, rfl, rfl, (H4.join H5).bare⟩
end Go.Proofs.Ytnjneeinpmehpaa
