/-
  PaceSame: the walk.
-/
import Derived.Test.YtjjjaeocdaimpaaPacePl
namespace Go.Proofs.Ytjjjaeocdaimpaa
open Go.RowKit

theorem alloc_heap_size' (w : World) (o : Obj) : (w.alloc o).heap.size = w.heap.size + 1 := Array.size_push ..

set_option maxRecDepth 100000 in
set_option maxHeartbeats 2000000 in
theorem same_any (v : Value) (n : Nat) (ds : List (Int × Int)) (X Y : Int) (w : World) (hr : Rd w 2 v n (dcells ds)) :
    Calls Try.prog 6 #[v, .agg #[.int .i64 X, .int .i64 Y]] w (Ret fun v w' => v = .bool true ∧ Own w w' []) := by
  have hlen : Hid (n = ds.length) := by have := hr.len; rw [dcells_length] at this; exact Lib.hid (by omega)
  have HR := Lib.hid hr
  obtain ⟨a0, cap, rfl, hn1, hn2⟩ := hr.shape
  clear hr
  go_enter Try.func6, Try.ntmps6
  go_wp2_with fail
  have H := (((Own.start w).alloc (.cells #[.int .i64 X, .int .i64 Y] 29)).alloc (.cells #[.int .i64 0, .int .i64 0, .bool false, .int .i64 0, .int .i64 0, .int .i64 0] 24)).alloc (.cells #[.int .i64 0, .int .i64 0, .bool false, .int .i64 0, .int .i64 0, .int .i64 0] 24)
  simp only [alloc_heap_size'] at H
  go_loopw [7] (fun i wr => ∃ k : Nat, k ≤ n ∧ k ≤ 100 ∧ i = .int .i64 k ∧ ∃ p : Pc, p.Ok ∧ Own w wr [blk (w.heap.size + 1 + 1) (.cells #[.int .i64 p.trip, .int .i64 p.vary, .bool p.known, .int .i64 p.doubled, .int .i64 p.rate, .int .i64 p.edge] 24), blk (w.heap.size + 1) (.cells #[.int .i64 p.trip, .int .i64 p.vary, .bool p.known, .int .i64 p.doubled, .int .i64 p.rate, .int .i64 p.edge] 24), blk w.heap.size (.cells #[.int .i64 X, .int .i64 Y] 29)])
    (fun i _ => 100 - (intOf i).toNat)
  case atStart => exact ⟨0, Nat.zero_le _, Nat.zero_le _, rfl, Pc.zero, Pc.zero_ok, H⟩
  case round =>
    clear H
    obtain ⟨k, hk, hk3, rfl, p, hok, H⟩ := hrel
    by_cases hlt : k < n ∧ k < 100
    · obtain ⟨hlt, hl3⟩ := hlt
      obtain ⟨b, o, e, hc⟩ := deed_at HR.out (show k < ds.length by have := hlen.out; omega)
      cases e
      obtain ⟨x, hx⟩ : ∃ x, Hid ((ds.getD k (0, 0)).1 = x) := ⟨_, rfl⟩
      obtain ⟨y, hy⟩ : ∃ x, Hid ((ds.getD k (0, 0)).2 = x) := ⟨_, rfl⟩
      rw [hx.out, hy.out] at hc
      have HD0 := Lib.hid hc
      clear hc
      obtain ⟨p1, p2, p3, p4, p5, p6⟩ := p
      simp only at H
      have hokq := Pc.does_ok hok x y
      obtain ⟨q, hq⟩ : ∃ q, Hid (Pc.does ⟨p1, p2, p3, p4, p5, p6⟩ x y = q) := ⟨_, rfl⟩
      rw [hq.out] at hokq
      obtain ⟨q1, q2, q3, q4, q5, q6⟩ := q
      go_upto_region 5 with (fail)
      refine wp_region_calm (fun w1 => Own w w1 [blk (w.heap.size + 1 + 1) (.cells #[.int .i64 p1, .int .i64 p2, .bool p3, .int .i64 p4, .int .i64 p5, .int .i64 p6] 24), blk (w.heap.size + 1) (.cells #[.int .i64 p1, .int .i64 p2, .bool p3, .int .i64 p4, .int .i64 p5, .int .i64 p6] 24), blk w.heap.size (.cells #[.int .i64 X, .int .i64 Y] 29)]) 6 (by kernel_rfl) (by kernel_rfl) H.drew ?_
      simp only [List.take_succ_cons, List.take_zero, List.drop_succ_cons, List.drop_zero]
      refine calm_value (v := ?_) (by decide) rfl (fun σ w1 hS => ?_) ?_; rotate_left
      · have c0 := (hS.front 1 rfl).cells
        go_simp
        rfl
      simp only [Act.put, List.setIfInBounds_toArray, List.set_cons_zero, List.set_cons_succ]
      refine calm_value (v := ?_) (by decide) rfl (fun σ w1 hS => ?_) ?_; rotate_left
      · rfl
      simp only [Act.put, List.setIfInBounds_toArray, List.set_cons_zero, List.set_cons_succ]
      refine calm_value (v := ?_) (by decide) rfl (fun σ w1 hS => ?_) ?_; rotate_left
      · rfl
      simp only [Act.put, List.setIfInBounds_toArray, List.set_cons_zero, List.set_cons_succ]
      refine calm_value (v := ?_) (by decide) rfl (fun σ w1 hS => ?_) ?_; rotate_left
      · go_simp
        rfl
      simp only [Act.put, List.setIfInBounds_toArray, List.set_cons_zero, List.set_cons_succ]
      refine calm_value (v := ?_) (by decide) rfl (fun σ w1 hS => ?_) ?_; rotate_left
      · obtain ⟨c1, c2⟩ := HD0.out w1 _ hS
        go_simp
        rfl
      simp only [Act.put, List.setIfInBounds_toArray, List.set_cons_zero, List.set_cons_succ]
      refine calm_call (v := .agg #[.int .i64 q1, .int .i64 q2, .bool q3, .int .i64 q4, .int .i64 q5, .int .i64 q6]) (by decide) rfl (fun w1 => (by go_simp; exact ⟨rfl, rfl⟩)) (fun σ w1 hS => ?_) ?_
      · refine (does_any ⟨p1, p2, p3, p4, p5, p6⟩ hok x y w1).mono ?_
        rintro e w2 ⟨v, rfl, rfl, h2⟩
        rw [hq.out]
        exact ⟨rfl, hS.join h2⟩
      simp only [Act.put, List.setIfInBounds_toArray, List.set_cons_zero, List.set_cons_succ]
      refine calm_nil ?_
      intro wd HD
      clear H
      go_upto_region 6 with (refine wpList_store_agg rfl _ _ rfl rfl (HD.front 1 rfl) rfl size6 (by simp) (by simp [Value.oneCell']) rfl ?_; clear HD; intro w' HD)
      replace HD := HD.swap
      have H := HD
      clear HD
      refine wp_region_calm (fun w1 => Own w w1 [blk (w.heap.size + 1 + 1) (.cells #[.int .i64 p1, .int .i64 p2, .bool p3, .int .i64 p4, .int .i64 p5, .int .i64 p6] 24), blk (w.heap.size + 1) (.cells #[.int .i64 q1, .int .i64 q2, .bool q3, .int .i64 q4, .int .i64 q5, .int .i64 q6] 24), blk w.heap.size (.cells #[.int .i64 X, .int .i64 Y] 29)]) 6 (by kernel_rfl) (by kernel_rfl) H.drew ?_
      simp only [List.take_succ_cons, List.take_zero, List.drop_succ_cons, List.drop_zero]
      refine calm_value (v := ?_) (by decide) rfl (fun σ w1 hS => ?_) ?_; rotate_left
      · have c0 := hS.cells
        go_simp
        rfl
      simp only [Act.put, List.setIfInBounds_toArray, List.set_cons_zero, List.set_cons_succ]
      refine calm_value (v := ?_) (by decide) rfl (fun σ w1 hS => ?_) ?_; rotate_left
      · rfl
      simp only [Act.put, List.setIfInBounds_toArray, List.set_cons_zero, List.set_cons_succ]
      refine calm_value (v := ?_) (by decide) rfl (fun σ w1 hS => ?_) ?_; rotate_left
      · rfl
      simp only [Act.put, List.setIfInBounds_toArray, List.set_cons_zero, List.set_cons_succ]
      refine calm_value (v := ?_) (by decide) rfl (fun σ w1 hS => ?_) ?_; rotate_left
      · go_simp
        rfl
      simp only [Act.put, List.setIfInBounds_toArray, List.set_cons_zero, List.set_cons_succ]
      refine calm_value (v := ?_) (by decide) rfl (fun σ w1 hS => ?_) ?_; rotate_left
      · obtain ⟨c1, c2⟩ := HD0.out w1 _ hS
        go_simp
        rfl
      simp only [Act.put, List.setIfInBounds_toArray, List.set_cons_zero, List.set_cons_succ]
      refine calm_call (v := .agg #[.int .i64 q1, .int .i64 q2, .bool q3, .int .i64 q4, .int .i64 q5, .int .i64 q6]) (by decide) rfl (fun w1 => (by go_simp; exact ⟨rfl, rfl⟩)) (fun σ w1 hS => ?_) ?_
      · refine (does_any ⟨p1, p2, p3, p4, p5, p6⟩ hok x y w1).mono ?_
        rintro e w2 ⟨v, rfl, rfl, h2⟩
        rw [hq.out]
        exact ⟨rfl, hS.join h2⟩
      simp only [Act.put, List.setIfInBounds_toArray, List.set_cons_zero, List.set_cons_succ]
      refine calm_nil ?_
      intro wd HD
      clear H
      go_upto_region 7 with (refine wpList_store_agg rfl _ _ rfl rfl HD rfl size6 (by simp) (by simp [Value.oneCell']) rfl ?_; clear HD; intro w' HD)
      have c0 := HD.cells
      have c1 := (HD.front 1 rfl).cells
      go_wp2
      go_round
      case rel => exact ⟨k + 1, by omega, by omega, by go_num, ⟨q1, q2, q3, q4, q5, q6⟩, hokq, HD⟩
      case measure => simp [intOf]; omega
    · go_upto_region 9 with (fail)
      all_goals
        obtain ⟨p1, p2, p3, p4, p5, p6⟩ := p
        simp only at H
        obtain ⟨wt, hwt⟩ : ∃ z, Hid (Pc.wait ⟨p1, p2, p3, p4, p5, p6⟩ = z) := ⟨_, rfl⟩
        obtain ⟨rt, hrt⟩ : ∃ z, Hid (Pc.rateOf ⟨p1, p2, p3, p4, p5, p6⟩ = z) := ⟨_, rfl⟩
        refine wp_region_calm (fun w1 => Own w w1 [blk (w.heap.size + 1 + 1) (.cells #[.int .i64 p1, .int .i64 p2, .bool p3, .int .i64 p4, .int .i64 p5, .int .i64 p6] 24), blk (w.heap.size + 1) (.cells #[.int .i64 p1, .int .i64 p2, .bool p3, .int .i64 p4, .int .i64 p5, .int .i64 p6] 24), blk w.heap.size (.cells #[.int .i64 X, .int .i64 Y] 29)]) 4 (by kernel_rfl) (by kernel_rfl) H.drew ?_
        simp only [List.take_succ_cons, List.take_zero, List.drop_succ_cons, List.drop_zero]
        refine calm_value (v := ?_) (by decide) rfl (fun σ w1 hS => ?_) ?_; rotate_left
        · have c0 := (hS.front 1 rfl).cells
          go_simp
          rfl
        simp only [Act.put, List.setIfInBounds_toArray, List.set_cons_zero, List.set_cons_succ]
        refine calm_call (v := .int .i64 wt) (by decide) rfl (fun w1 => (by go_simp; exact ⟨rfl, rfl⟩)) (fun σ w1 hS => ?_) ?_
        · refine (wait_any ⟨p1, p2, p3, p4, p5, p6⟩ hok w1).mono ?_
          rintro e w2 ⟨v, rfl, rfl, h2⟩
          rw [hwt.out]
          exact ⟨rfl, hS.join h2⟩
        simp only [Act.put, List.setIfInBounds_toArray, List.set_cons_zero, List.set_cons_succ]
        refine calm_value (v := ?_) (by decide) rfl (fun σ w1 hS => ?_) ?_; rotate_left
        · have c0 := (hS.front 1 rfl).cells
          go_simp
          rfl
        simp only [Act.put, List.setIfInBounds_toArray, List.set_cons_zero, List.set_cons_succ]
        refine calm_call (v := .int .i64 rt) (by decide) rfl (fun w1 => (by go_simp; exact ⟨rfl, rfl⟩)) (fun σ w1 hS => ?_) ?_
        · refine (rate_any ⟨p1, p2, p3, p4, p5, p6⟩ hok w1).mono ?_
          rintro e w2 ⟨v, rfl, rfl, h2⟩
          rw [hrt.out]
          exact ⟨rfl, hS.join h2⟩
        simp only [Act.put, List.setIfInBounds_toArray, List.set_cons_zero, List.set_cons_succ]
        refine calm_nil ?_
        intro wd HD
        clear H
        have c0 := HD.cells
        have c1 := (HD.front 1 rfl).cells
        have c2 := (HD.front 2 rfl).cells
        go_wp2_with fail
        refine (does_any ⟨p1, p2, p3, p4, p5, p6⟩ hok X Y _).mono ?_
        rintro e w2 ⟨v, rfl, rfl, h2⟩
        replace HD := HD.join h2
        clear h2 c0 c1 c2
        have c0 := HD.cells
        have c1 := (HD.front 1 rfl).cells
        go_wp2_with fail
        refine (wait_any ⟨p1, p2, p3, p4, p5, p6⟩ hok _).mono ?_
        rintro e w3 ⟨_, rfl, rfl, h2⟩
        rw [hwt.out]
        replace HD := HD.join h2
        clear h2 c0 c1
        have c0 := HD.cells
        have c1 := (HD.front 1 rfl).cells
        go_wp2_with fail
        refine (rate_any ⟨p1, p2, p3, p4, p5, p6⟩ hok _).mono ?_
        rintro e w4 ⟨_, rfl, rfl, h2⟩
        rw [hrt.out]
        replace HD := HD.join h2
        clear h2 c0 c1
        go_wp2_with fail
        refine (awake_any _).mono ?_
        rintro e w5 ⟨_, rfl, rfl, h3⟩
        go_wp2
        go_ret
        exact ⟨_, rfl, rfl, (HD.join h3).bare⟩
end Go.Proofs.Ytjjjaeocdaimpaa
