/-
  huff: the walks of what compares.
-/
import Derived.Test.YtfeamlbkogigkaaSrtI8
import Derived.Test.YtfeamlbkogigkaaSrtC8
namespace Go.Proofs.Ytfeamlbkogigkaa
open Go.RowKit

theorem nan_any (a : Int) (w : World) : Calls Try.prog 44 #[.int .i64 a] w fun e w' => e = .returned (.bool false) ∧ w' = w := by
  go_enter Try.func44, Try.ntmps44
  go_wp2
  go_ret
  exact ⟨by simp, rfl⟩
theorem compare_any (a b : Int) (w : World) : Calls Try.prog 34 #[.int .i64 a, .int .i64 b] w fun e w' => e = .returned (.int .i64 (cmpI a b)) ∧ w' = w := by
  go_enter Try.func34, Try.ntmps34
  go_wp2_with fail
  refine (nan_any a w).mono ?_
  rintro e w1 ⟨rfl, rfl⟩
  go_wp2_with fail
  refine (nan_any b _).mono ?_
  rintro e w1 ⟨rfl, rfl⟩
  by_cases h1 : a < b
  · have e : Hid (cmpI a b = -1) := Lib.hid (by simp [cmpI, h1])
    go_wp2
    go_ret
    exact ⟨by rw [e.out]; rfl, rfl⟩
  · by_cases h2 : b < a
    · have e : Hid (cmpI a b = 1) := Lib.hid (by simp [cmpI, h1, h2])
      go_wp2
      go_ret
      exact ⟨by rw [e.out]; rfl, rfl⟩
    · have e : Hid (cmpI a b = 0) := Lib.hid (by simp [cmpI, h1, h2])
      go_wp2
      go_ret
      exact ⟨by rw [e.out]; rfl, rfl⟩

/-- Coins are compared by their weights. -/
theorem lighter_any (w0 : World) (ps : List Piece) (B : Nat) : SC.Cmps w0 ps B (fun _ => True) Coin.w := by
  intro wz row _ x y _ _
  unfold SC.cg SC.ca
  obtain ⟨c, hc⟩ : ∃ c, Hid (cmpI x.w y.w = c) := ⟨_, rfl⟩
  rw [hc.out]
  have H := (Own.start wz).alloc2 (.cells #[.int .i64 x.w, .bool x.pair] 65) (.cells #[.int .i64 y.w, .bool y.pair] 65)
  unfold cval
  go_enter Try.func47, Try.ntmps47
  go_wp2_with fail
  refine (compare_any x.w y.w _).mono ?_
  rintro e w1 ⟨rfl, rfl⟩
  rw [hc.out]
  go_wp2
  go_ret
  exact ⟨_, rfl, rfl, H.bare⟩
end Go.Proofs.Ytfeamlbkogigkaa
