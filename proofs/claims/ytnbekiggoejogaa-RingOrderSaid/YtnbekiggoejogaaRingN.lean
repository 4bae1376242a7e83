/-
  Queues that are none: the walks.
-/
import Derived.Test.YtnbekiggoejogaaRing
namespace Go.Proofs.Ytnbekiggoejogaa
open Go.RowKit
namespace RingInt
theorem push_nil (x : Int) (w : World) : Calls Try.prog 14 #[.pointer none, .int .i64 x] w (Ret fun v w' => v = .bool false ∧ Own w w' []) := by
  go_enter Try.func14, Try.ntmps14
  go_upto_region 1 with (fail)
  refine wp_region_calm (fun w1 => Own w w1 []) 14 (by kernel_rfl) (by kernel_rfl) (Own.start w).drew ?_
  simp only [List.take_succ_cons, List.take_zero, List.drop_succ_cons, List.drop_zero]
  repeat
    first
    | (refine calm_value (v := ?_) (by decide) rfl (fun σ w1 hS => ?_) ?_
       rotate_left
       · skip
         first | (go_simp; rfl) | rfl
       simp only [Act.put, List.setIfInBounds_toArray, List.set_cons_zero, List.set_cons_succ])
    | (refine calm_skip (by decide) rfl ?_
       simp only [Act.put, List.setIfInBounds_toArray, List.set_cons_zero, List.set_cons_succ])
  refine calm_nil ?_
  intro wd HD
  go_wp2
  go_ret
  exact ⟨_, rfl, rfl, HD⟩
theorem at_nil (i : Int) (w : World) : Calls Try.prog 16 #[.pointer none, .int .i64 i] w fun e w' => e = .returned (.tuple #[.int .i64 0, .bool false]) ∧ w' = w := by
  go_enter Try.func16, Try.ntmps16
  go_wp2
  go_ret2
  exact ⟨rfl, rfl⟩
theorem pop_nil (w : World) : Calls Try.prog 15 #[.pointer none] w fun e w' => e = .returned (.tuple #[.int .i64 0, .bool false]) ∧ w' = w := by
  go_enter Try.func15, Try.ntmps15
  go_wp2_with fail
  refine (at_nil 0 w).mono ?_
  rintro e w1 ⟨rfl, rfl⟩
  go_wp2
  go_ret2
  exact ⟨rfl, rfl⟩
theorem rlen_nil (w : World) : Calls Try.prog 17 #[.pointer none] w fun e w' => e = .returned (.int .i64 0) ∧ w' = w := by
  go_enter Try.func17, Try.ntmps17
  go_wp2
  go_ret
  exact ⟨rfl, rfl⟩
end RingInt
end Go.Proofs.Ytnbekiggoejogaa
