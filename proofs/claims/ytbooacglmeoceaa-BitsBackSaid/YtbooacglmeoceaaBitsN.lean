/-
  Bits: a writer and a reader that are none; BitsNone.
-/
import Derived.Test.YtbooacglmeoceaaBitsL
namespace Go.Proofs.Ytbooacglmeoceaa
open Go.RowKit

theorem left_none' (w : World) : Calls Try.prog 21 #[.pointer none] w fun e w' => e = .returned (.int .i64 0) ∧ w' = w := by
  go_enter Try.func21, Try.ntmps21
  go_wp2
  go_ret
  exact ⟨rfl, rfl⟩
theorem used_none (w : World) : Calls Try.prog 23 #[.pointer none] w fun e w' => e = .returned (.int .i64 0) ∧ w' = w := by
  go_enter Try.func23, Try.ntmps23
  go_wp2
  go_ret
  exact ⟨rfl, rfl⟩
theorem ralign_none (w : World) : Calls Try.prog 17 #[.pointer none] w (Ret fun _ w' => w' = w) := by
  go_enter Try.func17, Try.ntmps17
  go_wp2
  go_end0
  exact ⟨_, rfl, rfl⟩
theorem rtext_none (n : Int) (w : World) : Calls Try.prog 19 #[.pointer none, .int .i64 n] w fun e w' => e = .returned (.tuple #[.string ByteArray.empty, .bool false]) ∧ w' = w := by
  go_enter Try.func19, Try.ntmps19
  go_wp2
  go_ret2
  exact ⟨rfl, rfl⟩
theorem take_none (n : Int) (w : World) : Calls Try.prog 15 #[.pointer none, .int .i64 n] w fun e w' => e = .returned (.tuple #[.int .i64 0, .bool false]) ∧ w' = w := by
  go_enter Try.func15, Try.ntmps15
  by_cases h : n < 0
  · go_wp2
    go_ret2
    exact ⟨rfl, rfl⟩
  by_cases h2 : 62 < n
  · go_wp2
    go_ret2
    exact ⟨rfl, rfl⟩
  go_wp2_with fail
  refine (left_none' _).mono ?_
  rintro e _ ⟨rfl, rfl⟩
  go_wp2
  all_goals go_ret2
  all_goals exact ⟨rfl, rfl⟩

set_option maxRecDepth 100000 in
set_option maxHeartbeats 800000 in
theorem nones_any (v n : Int) (s : ByteArray) (w : World) : Calls Try.prog 6 #[.int .i64 v, .int .i64 n, .string s] w (Ret fun v w' => v = .bool true ∧ Own w w' []) := by
  go_enter Try.func6, Try.ntmps6
  go_wp2_with fail
  refine (put_none v n w).mono ?_
  rintro e _ ⟨_, rfl, rfl⟩
  go_wp2_with fail
  refine (code_none v n _).mono ?_
  rintro e _ ⟨_, rfl, rfl⟩
  go_wp2_with fail
  refine (align_none _).mono ?_
  rintro e _ ⟨_, rfl, rfl⟩
  go_wp2_with fail
  refine (text_none s _).mono ?_
  rintro e _ ⟨_, rfl, rfl⟩
  go_wp2_with fail
  refine (take_none n _).mono ?_
  rintro e _ ⟨rfl, rfl⟩
  go_wp2_with fail
  refine (ralign_none _).mono ?_
  rintro e _ ⟨_, rfl, rfl⟩
  go_wp2_with fail
  refine (rtext_none n _).mono ?_
  rintro e _ ⟨rfl, rfl⟩
  go_wp2_with fail
  refine (len_none _).mono ?_
  rintro e _ ⟨rfl, rfl⟩
  go_wp2_with fail
  refine (bytes_none _).mono ?_
  rintro e _ ⟨rfl, rfl⟩
  go_wp2_with fail
  refine (left_none' _).mono ?_
  rintro e _ ⟨rfl, rfl⟩
  go_wp2_with fail
  refine (used_none _).mono ?_
  rintro e _ ⟨rfl, rfl⟩
  go_wp2_with fail
  refine (awake_any _).mono ?_
  rintro e w4 ⟨_, rfl, rfl, H4⟩
  go_wp2
  go_ret
  exact ⟨_, rfl, rfl, H4⟩
end Go.Proofs.Ytbooacglmeoceaa
