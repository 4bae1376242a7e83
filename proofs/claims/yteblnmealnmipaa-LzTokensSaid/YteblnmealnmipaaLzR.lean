/-
  lz: the walks of what tells whether a token may stand.
-/
import Derived.Test.YteblnmealnmipaaLzX
import Derived.Test.YteblnmealnmipaaLzA
namespace Go.Proofs.Yteblnmealnmipaa
open Go.RowKit

set_option maxHeartbeats 1600000 in
theorem right_any (t : Tok) (n : Nat) (w : World) : Calls Try.prog 19 #[tval t, .int .i64 n] w (Ret fun v w' => v = .bool (may t n) ∧ Own w w' []) := by
  obtain ⟨a, b, c⟩ := t
  have H := (Own.start w).alloc' (.cells #[.int .i64 a, .int .i64 b, .int .i64 c] 36)
  unfold tval
  go_enter Try.func19, Try.ntmps19
  by_cases ha : a = 0
  · subst ha
    have e : Hid (may ⟨0, b, c⟩ n = decide (b = 0 ∧ 0 ≤ c ∧ c < 256)) := Lib.hid (by unfold may; rw [if_pos rfl])
    rw [e.out]
    by_cases hb : b = 0
    · subst hb
      by_cases h1 : 0 ≤ c
      · by_cases h2 : c < 256
        · have e : Hid (decide ((0 : Int) = 0 ∧ 0 ≤ c ∧ c < 256) = true) := Lib.hid (decide_eq_true ⟨rfl, h1, h2⟩)
          rw [e.out]
          go_wp2
          go_ret
          exact ⟨_, rfl, rfl, H⟩
        · have e : Hid (decide ((0 : Int) = 0 ∧ 0 ≤ c ∧ c < 256) = false) := Lib.hid (decide_eq_false (by omega))
          rw [e.out]
          go_wp2
          go_ret
          exact ⟨_, rfl, rfl, H⟩
      · have e : Hid (decide ((0 : Int) = 0 ∧ 0 ≤ c ∧ c < 256) = false) := Lib.hid (decide_eq_false (by omega))
        rw [e.out]
        go_wp2
        go_ret
        exact ⟨_, rfl, rfl, H⟩
    · have e : Hid (decide (b = 0 ∧ 0 ≤ c ∧ c < 256) = false) := Lib.hid (decide_eq_false (by omega))
      have hb' : (b == 0) = false := by simp [hb]
      rw [e.out]
      go_wp2
      go_ret
      exact ⟨_, rfl, rfl, H⟩
  · have ha' : (a == 0) = false := by simp [ha]
    have e : Hid (may ⟨a, b, c⟩ n = decide (c = 0 ∧ 3 ≤ a ∧ a ≤ 258 ∧ 1 ≤ b ∧ b ≤ 32768 ∧ b ≤ n)) := Lib.hid (by unfold may; rw [if_neg ha])
    rw [e.out]
    clear ha e
    by_cases hc : c = 0
    · subst hc
      by_cases h1 : 3 ≤ a
      · by_cases h2 : a ≤ 258
        · by_cases h3 : 1 ≤ b
          · by_cases h4 : b ≤ 32768
            · by_cases h5 : b ≤ (n : Int)
              · have e : Hid (decide ((0 : Int) = 0 ∧ 3 ≤ a ∧ a ≤ 258 ∧ 1 ≤ b ∧ b ≤ 32768 ∧ b ≤ n) = true) := Lib.hid (decide_eq_true (by omega))
                rw [e.out]
                go_wp2
                all_goals
                  go_ret
                  exact ⟨_, rfl, (by first | rfl | (congr 1; simp; omega)), H⟩
              · have e : Hid (decide ((0 : Int) = 0 ∧ 3 ≤ a ∧ a ≤ 258 ∧ 1 ≤ b ∧ b ≤ 32768 ∧ b ≤ n) = false) := Lib.hid (decide_eq_false (by omega))
                rw [e.out]
                go_wp2
                all_goals
                  go_ret
                  exact ⟨_, rfl, (by first | rfl | (congr 1; simp; omega)), H⟩
            · have e : Hid (decide ((0 : Int) = 0 ∧ 3 ≤ a ∧ a ≤ 258 ∧ 1 ≤ b ∧ b ≤ 32768 ∧ b ≤ n) = false) := Lib.hid (decide_eq_false (by omega))
              rw [e.out]
              go_wp2
              all_goals
                go_ret
                exact ⟨_, rfl, (by first | rfl | (congr 1; simp; omega)), H⟩
          · have e : Hid (decide ((0 : Int) = 0 ∧ 3 ≤ a ∧ a ≤ 258 ∧ 1 ≤ b ∧ b ≤ 32768 ∧ b ≤ n) = false) := Lib.hid (decide_eq_false (by omega))
            rw [e.out]
            go_wp2
            go_ret
            exact ⟨_, rfl, rfl, H⟩
        · have e : Hid (decide ((0 : Int) = 0 ∧ 3 ≤ a ∧ a ≤ 258 ∧ 1 ≤ b ∧ b ≤ 32768 ∧ b ≤ n) = false) := Lib.hid (decide_eq_false (by omega))
          rw [e.out]
          go_wp2
          go_ret
          exact ⟨_, rfl, rfl, H⟩
      · have e : Hid (decide ((0 : Int) = 0 ∧ 3 ≤ a ∧ a ≤ 258 ∧ 1 ≤ b ∧ b ≤ 32768 ∧ b ≤ n) = false) := Lib.hid (decide_eq_false (by omega))
        rw [e.out]
        go_wp2
        go_ret
        exact ⟨_, rfl, rfl, H⟩
    · have e : Hid (decide (c = 0 ∧ 3 ≤ a ∧ a ≤ 258 ∧ 1 ≤ b ∧ b ≤ 32768 ∧ b ≤ n) = false) := Lib.hid (decide_eq_false (by omega))
      have hc' : (c == 0) = false := by simp [hc]
      rw [e.out]
      go_wp2
      go_ret
      exact ⟨_, rfl, rfl, H⟩

set_option maxHeartbeats 1600000 in
theorem may_any (t : Tok) (n : Nat) (w : World) : Calls Try.prog 15 #[tval t, .int .i64 n] w (Ret fun v w' => v = .bool (may t n) ∧ Own w w' []) := by
  obtain ⟨a, b, c⟩ := t
  have H := (Own.start w).alloc' (.cells #[.int .i64 a, .int .i64 b, .int .i64 c] 36)
  unfold tval
  go_enter Try.func15, Try.ntmps15
  by_cases ha : a = 0
  · subst ha
    have e : Hid (may ⟨0, b, c⟩ n = decide (b = 0 ∧ 0 ≤ c ∧ c < 256)) := Lib.hid (by unfold may; rw [if_pos rfl])
    rw [e.out]
    by_cases hb : b = 0
    · subst hb
      by_cases h1 : 0 ≤ c
      · by_cases h2 : c ≤ 255
        · have e : Hid (decide ((0 : Int) = 0 ∧ 0 ≤ c ∧ c < 256) = true) := Lib.hid (decide_eq_true (by omega))
          rw [e.out]
          go_wp2
          go_ret
          exact ⟨_, rfl, rfl, H⟩
        · have e : Hid (decide ((0 : Int) = 0 ∧ 0 ≤ c ∧ c < 256) = false) := Lib.hid (decide_eq_false (by omega))
          rw [e.out]
          go_wp2
          go_ret
          exact ⟨_, rfl, rfl, H⟩
      · have e : Hid (decide ((0 : Int) = 0 ∧ 0 ≤ c ∧ c < 256) = false) := Lib.hid (decide_eq_false (by omega))
        rw [e.out]
        go_wp2
        go_ret
        exact ⟨_, rfl, rfl, H⟩
    · have e : Hid (decide (b = 0 ∧ 0 ≤ c ∧ c < 256) = false) := Lib.hid (decide_eq_false (by omega))
      have hb' : (b == 0) = false := by simp [hb]
      rw [e.out]
      go_wp2
      go_ret
      exact ⟨_, rfl, rfl, H⟩
  · have ha' : (a == 0) = false := by simp [ha]
    have e : Hid (may ⟨a, b, c⟩ n = decide (c = 0 ∧ 3 ≤ a ∧ a ≤ 258 ∧ 1 ≤ b ∧ b ≤ 32768 ∧ b ≤ n)) := Lib.hid (by unfold may; rw [if_neg ha])
    rw [e.out]
    clear ha e
    by_cases hc : c = 0
    · subst hc
      by_cases h1 : 3 ≤ a
      · by_cases h2 : a ≤ 258
        · by_cases h3 : 1 ≤ b
          · by_cases h4 : b ≤ 32768
            · by_cases h5 : b ≤ (n : Int)
              · have e : Hid (decide ((0 : Int) = 0 ∧ 3 ≤ a ∧ a ≤ 258 ∧ 1 ≤ b ∧ b ≤ 32768 ∧ b ≤ n) = true) := Lib.hid (decide_eq_true (by omega))
                rw [e.out]
                go_wp2
                go_ret
                exact ⟨_, rfl, rfl, H⟩
              · have e : Hid (decide ((0 : Int) = 0 ∧ 3 ≤ a ∧ a ≤ 258 ∧ 1 ≤ b ∧ b ≤ 32768 ∧ b ≤ n) = false) := Lib.hid (decide_eq_false (by omega))
                rw [e.out]
                go_wp2
                go_ret
                exact ⟨_, rfl, rfl, H⟩
            · have e : Hid (decide ((0 : Int) = 0 ∧ 3 ≤ a ∧ a ≤ 258 ∧ 1 ≤ b ∧ b ≤ 32768 ∧ b ≤ n) = false) := Lib.hid (decide_eq_false (by omega))
              rw [e.out]
              go_wp2
              go_ret
              exact ⟨_, rfl, rfl, H⟩
          · have e : Hid (decide ((0 : Int) = 0 ∧ 3 ≤ a ∧ a ≤ 258 ∧ 1 ≤ b ∧ b ≤ 32768 ∧ b ≤ n) = false) := Lib.hid (decide_eq_false (by omega))
            rw [e.out]
            go_wp2
            go_ret
            exact ⟨_, rfl, rfl, H⟩
        · have e : Hid (decide ((0 : Int) = 0 ∧ 3 ≤ a ∧ a ≤ 258 ∧ 1 ≤ b ∧ b ≤ 32768 ∧ b ≤ n) = false) := Lib.hid (decide_eq_false (by omega))
          rw [e.out]
          go_wp2
          go_ret
          exact ⟨_, rfl, rfl, H⟩
      · have e : Hid (decide ((0 : Int) = 0 ∧ 3 ≤ a ∧ a ≤ 258 ∧ 1 ≤ b ∧ b ≤ 32768 ∧ b ≤ n) = false) := Lib.hid (decide_eq_false (by omega))
        rw [e.out]
        go_wp2
        go_ret
        exact ⟨_, rfl, rfl, H⟩
    · have e : Hid (decide (c = 0 ∧ 3 ≤ a ∧ a ≤ 258 ∧ 1 ≤ b ∧ b ≤ 32768 ∧ b ≤ n) = false) := Lib.hid (decide_eq_false (by omega))
      have hc' : (c == 0) = false := by simp [hc]
      rw [e.out]
      go_wp2
      go_ret
      exact ⟨_, rfl, rfl, H⟩
end Go.Proofs.Yteblnmealnmipaa
