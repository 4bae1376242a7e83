/-
  PacePlays: the walk.
-/
import Derived.Test.YtjjjaeocdaimpaaPaceL
namespace Go.Proofs.Ytjjjaeocdaimpaa
open Go.RowKit

theorem Pc.does_low (p : Pc) {x : Int} (n : Int) (h : x = 0 ∨ x = 1 ∨ x = 2 ∨ x = 3) : p.does x n = p.came n := if_pos h
theorem Pc.does_else (p : Pc) {x : Int} (n : Int) (h : ¬ (x = 0 ∨ x = 1 ∨ x = 2 ∨ x = 3)) (h4 : ¬ x = 4) : p.does x n = p.gap := by unfold does; rw [if_neg h, if_neg h4]
theorem Pc.rv_val (p : Pc) : ∃ (a1 a2 a3 a4 a5 : Int) (a6 : Bool), p.rv = .agg #[.int .i64 a1, .int .i64 a2, .int .i64 a3, .int .i64 a4, .int .i64 a5, .bool a6] ∧ a4 / 16 = p.rateOf := ⟨_, _, _, _, _, _, rfl, rfl⟩

set_option maxRecDepth 100000 in
set_option maxHeartbeats 2000000 in
theorem plays_any (v : Value) (n : Nat) (ds : List (Int × Int)) (w : World) (hr : Rd w 2 v n (dcells ds)) :
    Calls Try.prog 3 #[v] w (Ret fun v w' => v = .bool true ∧ Own w w' []) := by
  have hlen : Hid (n = ds.length) := by have := hr.len; rw [dcells_length] at this; exact Lib.hid (by omega)
  have HR := Lib.hid hr
  obtain ⟨a0, cap, rfl, hn1, hn2⟩ := hr.shape
  clear hr
  obtain ⟨z1, z2, z3, z4, z5, z6, hz, _⟩ := Pc.rv_val Pc.zero
  have HZ := Lib.hid hz
  clear hz
  go_enter Try.func3, Try.ntmps3
  go_wp2_with fail
  have H := (Own.start w).alloc (.cells #[.int .i64 0, .int .i64 0, .bool false, .int .i64 0, .int .i64 0, .int .i64 0] 24)
  refine (refNew_any _).mono ?_
  rintro e w0 ⟨_, rfl, rfl, h0⟩
  rw [HZ.out]
  replace H := H.join h0
  clear h0
  go_upto_region 3 with (fail)
  replace H := H.alloc (.cells #[.int .i64 z1, .int .i64 z2, .int .i64 z3, .int .i64 z4, .int .i64 z5, .bool z6] 26)
  generalize World.alloc w0 _ = wA at *
  generalize w0.heap.size = gq at *
  go_wp2_with fail
  go_loopw [5] (fun i wr => ∃ k : Nat, k ≤ n ∧ k ≤ 300 ∧ i = .int .i64 k ∧ ∃ p : Pc, ∃ (s1 s2 s3 s4 s5 : Int) (s6 : Bool), Hid (p = Pc.after ds k) ∧ Hid (p.rv = .agg #[.int .i64 s1, .int .i64 s2, .int .i64 s3, .int .i64 s4, .int .i64 s5, .bool s6]) ∧ p.Ok ∧ Own w wr [blk gq (.cells #[.int .i64 s1, .int .i64 s2, .int .i64 s3, .int .i64 s4, .int .i64 s5, .bool s6] 26), blk w.heap.size (.cells #[.int .i64 p.trip, .int .i64 p.vary, .bool p.known, .int .i64 p.doubled, .int .i64 p.rate, .int .i64 p.edge] 24)])
    (fun i _ => 300 - (intOf i).toNat)
  case atStart => exact ⟨0, Nat.zero_le _, Nat.zero_le _, rfl, Pc.zero, _, _, _, _, _, _, Lib.hid rfl, HZ, Pc.zero_ok, H⟩
  case round =>
    clear H HZ
    obtain ⟨k, hk, hk3, rfl, p, t1, t2, t3, t4, t5, t6, hp, ht, hok, H⟩ := hrel
    by_cases hlt : k < n ∧ k < 300
    · obtain ⟨hlt, hl3⟩ := hlt
      obtain ⟨b, o, e, hc⟩ := deed_at HR.out (show k < ds.length by have := hlen.out; omega)
      cases e
      obtain ⟨x, hx⟩ : ∃ x, Hid ((ds.getD k (0, 0)).1 = x) := ⟨_, rfl⟩
      obtain ⟨y, hy⟩ : ∃ x, Hid ((ds.getD k (0, 0)).2 = x) := ⟨_, rfl⟩
      rw [hx.out, hy.out] at hc
      have HD0 := Lib.hid hc
      clear hc
      obtain ⟨p1, p2, p3, p4, p5, p6⟩ := p
      simp only at H
      have hokq := Pc.does_ok hok x y
      obtain ⟨q, hq⟩ : ∃ q, Hid (Pc.does ⟨p1, p2, p3, p4, p5, p6⟩ x y = q) := ⟨_, rfl⟩
      rw [hq.out] at hokq
      obtain ⟨s1, s2, s3, s4, s5, s6, hs0, hs4⟩ := Pc.rv_val q
      have hs := Lib.hid hs0
      have hse := Lib.hid hs4
      clear hs0 hs4
      obtain ⟨wq, hwq⟩ : ∃ z, Hid (q.wait = z) := ⟨_, rfl⟩
      obtain ⟨rq, hrq⟩ : ∃ z, Hid (q.rateOf = z) := ⟨_, rfl⟩
      rw [hrq.out] at hse
      obtain ⟨q1, q2, q3, q4, q5, q6⟩ := q
      obtain ⟨cx, cy⟩ := HD0.out _ _ H
      go_upto_region 7 with (fail)
      clear cx cy
      replace H := (H.alloc (.cells #[.int .i64 x, .int .i64 y] 29)).front 2 rfl
      generalize World.alloc wr _ = wB at *
      generalize wr.heap.size = gx at *
      have c0 := H.cells
      have cx := (H.front 1 rfl).cells
      go_wp2_with fail
      refine (does_any ⟨p1, p2, p3, p4, p5, p6⟩ hok x y _).mono ?_
      rintro e w2 ⟨_, rfl, rfl, h2⟩
      rw [hq.out]
      replace H := H.join h2
      clear h2 c0 cx
      unfold Pc.val
      go_upto_region 8 with (refine wpList_store_agg rfl _ _ rfl rfl H rfl size6 (by simp) (by simp [Value.oneCell']) rfl ?_; clear H; intro w' H)
      have cx := (H.front 1 rfl).cells
      have cq := (H.front 2 rfl).cells
      go_upto_block 2 with (fail)
      go_cut [] (fun wx => Own w wx [blk gq (.cells #[.int .i64 s1, .int .i64 s2, .int .i64 s3, .int .i64 s4, .int .i64 s5, .bool s6] 26), blk w.heap.size (.cells #[.int .i64 q1, .int .i64 q2, .bool q3, .int .i64 q4, .int .i64 q5, .int .i64 q6] 24)])
      case first =>
        by_cases hk : x = 0 ∨ x = 1 ∨ x = 2 ∨ x = 3
        · have hrr : ∀ w1, Calls Try.prog 9 #[.agg #[.int .i64 t1, .int .i64 t2, .int .i64 t3, .int .i64 t4, .int .i64 t5, .bool t6], .int .i64 y] w1 (Ret fun v w' => v = .agg #[.int .i64 s1, .int .i64 s2, .int .i64 s3, .int .i64 s4, .int .i64 s5, .bool s6] ∧ Own w1 w' []) := fun w1 => by
            have := refCame_any _ hok y w1
            rw [← Pc.does_low _ y hk, hq.out, hs.out, ht.out] at this
            exact this
          have HRR := Lib.hid hrr
          clear hrr
          rcases hk with rfl | rfl | rfl | rfl
          all_goals
            go_wp2_with fail
            refine (HRR.out _).mono ?_
            rintro e w2 ⟨_, rfl, rfl, h2⟩
            replace H := (H.join h2).front 2 rfl
            clear h2 cx cq
            go_wp2_with (refine wpList_store_agg rfl _ _ rfl rfl H rfl size6r (by simp) (by simp [Value.oneCell']) rfl ?_; clear H; intro w' H)
            go_meet
            exact H.swap.front 2 rfl |>.drop.swap
        · have hk1 : ¬ x = 0 := fun e => hk (.inl e)
          have hk2 : ¬ x = 1 := fun e => hk (.inr (.inl e))
          have hk3' : ¬ x = 2 := fun e => hk (.inr (.inr (.inl e)))
          have hk4 : ¬ x = 3 := fun e => hk (.inr (.inr (.inr e)))
          by_cases hk5 : x = 4
          · have hrr : ∀ w1, Calls Try.prog 10 #[.agg #[.int .i64 t1, .int .i64 t2, .int .i64 t3, .int .i64 t4, .int .i64 t5, .bool t6]] w1 (Ret fun v w' => v = .agg #[.int .i64 s1, .int .i64 s2, .int .i64 s3, .int .i64 s4, .int .i64 s5, .bool s6] ∧ Own w1 w' []) := fun w1 => by
              have := refLost_any _ hok w1
              rw [← Pc.does_four _ y, ← hk5, hq.out, hs.out, ht.out] at this
              exact this
            have HRR := Lib.hid hrr
            clear hrr hk
            subst hk5
            go_wp2_with fail
            refine (HRR.out _).mono ?_
            rintro e w2 ⟨_, rfl, rfl, h2⟩
            replace H := (H.join h2).front 2 rfl
            clear h2 cx cq
            go_wp2_with (refine wpList_store_agg rfl _ _ rfl rfl H rfl size6r (by simp) (by simp [Value.oneCell']) rfl ?_; clear H; intro w' H)
            go_meet
            exact H.swap.front 2 rfl |>.drop.swap
          · have hrr : ∀ w1, Calls Try.prog 11 #[.agg #[.int .i64 t1, .int .i64 t2, .int .i64 t3, .int .i64 t4, .int .i64 t5, .bool t6]] w1 (Ret fun v w' => v = .agg #[.int .i64 s1, .int .i64 s2, .int .i64 s3, .int .i64 s4, .int .i64 s5, .bool s6] ∧ Own w1 w' []) := fun w1 => by
              have := refGap_any _ hok w1
              rw [← Pc.does_else _ y hk hk5, hq.out, hs.out, ht.out] at this
              exact this
            have HRR := Lib.hid hrr
            clear hrr hk
            go_wp2_with fail
            refine (HRR.out _).mono ?_
            rintro e w2 ⟨_, rfl, rfl, h2⟩
            replace H := (H.join h2).front 2 rfl
            clear h2 cx cq
            go_wp2_with (refine wpList_store_agg rfl _ _ rfl rfl H rfl size6r (by simp) (by simp [Value.oneCell']) rfl ?_; clear H; intro w' H)
            go_meet
            exact H.swap.front 2 rfl |>.drop.swap
      case rest =>
      clear H cx cq
      have H := hcut
      clear hcut
      have hs4b : 0 ≤ s4 := by
        have hh : s4 = Pc.now ⟨q1, q2, q3, q4, q5, q6⟩ := by have := hs.out; simp only [Pc.rv] at this; simp at this; exact this.2.2.2.1.symm
        have := Pc.now_bd hokq
        omega
      go_upto_region 17 with (fail)
      go_cut [54] (fun s54 wx => s54 = .bool false ∧ Own w wx [blk gq (.cells #[.int .i64 s1, .int .i64 s2, .int .i64 s3, .int .i64 s4, .int .i64 s5, .bool s6] 26), blk w.heap.size (.cells #[.int .i64 q1, .int .i64 q2, .bool q3, .int .i64 q4, .int .i64 q5, .int .i64 q6] 24)])
      case first =>
        have hrb := Pc.rate_bd hokq
        rw [hrq.out] at hrb
        have hse' : IntKind.i64.wrap (s4.tdiv 16) = rq := by
          rw [Int.tdiv_eq_ediv_of_nonneg hs4b, hse.out]
          exact IntWalk.i64_in _ (by omega)
        refine wp_region_calm (fun w1 => Own w w1 [blk gq (.cells #[.int .i64 s1, .int .i64 s2, .int .i64 s3, .int .i64 s4, .int .i64 s5, .bool s6] 26), blk w.heap.size (.cells #[.int .i64 q1, .int .i64 q2, .bool q3, .int .i64 q4, .int .i64 q5, .int .i64 q6] 24)]) 13 (by kernel_rfl) (by kernel_rfl) H.drew ?_
        simp only [List.take_succ_cons, List.take_zero, List.drop_succ_cons, List.drop_zero]
        refine calm_value (v := ?_) (by decide) rfl (fun σ w1 hS => ?_) ?_; rotate_left
        · have c0 := hS.swap.cells
          go_simp
          rfl
        simp only [Act.put, List.setIfInBounds_toArray, List.set_cons_zero, List.set_cons_succ]
        refine calm_call (v := .int .i64 wq) (by decide) rfl (fun w1 => (by go_simp; exact ⟨rfl, rfl⟩)) (fun σ w1 hS => ?_) ?_
        · refine (wait_any ⟨q1, q2, q3, q4, q5, q6⟩ hokq w1).mono ?_
          rintro e w2 ⟨v, rfl, rfl, h2⟩
          rw [hwq.out]
          exact ⟨rfl, hS.join h2⟩
        simp only [Act.put, List.setIfInBounds_toArray, List.set_cons_zero, List.set_cons_succ]
        refine calm_value (v := ?_) (by decide) rfl (fun σ w1 hS => ?_) ?_; rotate_left
        · have c0 := hS.cells
          go_simp
          rfl
        simp only [Act.put, List.setIfInBounds_toArray, List.set_cons_zero, List.set_cons_succ]
        refine calm_call (v := .int .i64 wq) (by decide) rfl (fun w1 => (by go_simp; exact ⟨rfl, rfl⟩)) (fun σ w1 hS => ?_) ?_
        · have hc := refWait_any ⟨q1, q2, q3, q4, q5, q6⟩ hokq w1
          rw [hs.out] at hc
          refine hc.mono ?_
          rintro e w2 ⟨v, rfl, rfl, h2⟩
          rw [hwq.out]
          exact ⟨rfl, hS.join h2⟩
        simp only [Act.put, List.setIfInBounds_toArray, List.set_cons_zero, List.set_cons_succ]
        refine calm_value (v := ?_) (by decide) rfl (fun σ w1 hS => ?_) ?_; rotate_left
        · go_simp
          rfl
        simp only [Act.put, List.setIfInBounds_toArray, List.set_cons_zero, List.set_cons_succ]
        refine calm_value (v := ?_) (by decide) rfl (fun σ w1 hS => ?_) ?_; rotate_left
        · rfl
        simp only [Act.put, List.setIfInBounds_toArray, List.set_cons_zero, List.set_cons_succ]
        refine calm_value (v := ?_) (by decide) rfl (fun σ w1 hS => ?_) ?_; rotate_left
        · have c0 := hS.swap.cells
          go_simp
          rfl
        simp only [Act.put, List.setIfInBounds_toArray, List.set_cons_zero, List.set_cons_succ]
        refine calm_call (v := .int .i64 rq) (by decide) rfl (fun w1 => (by go_simp; exact ⟨rfl, rfl⟩)) (fun σ w1 hS => ?_) ?_
        · refine (rate_any ⟨q1, q2, q3, q4, q5, q6⟩ hokq w1).mono ?_
          rintro e w2 ⟨v, rfl, rfl, h2⟩
          rw [hrq.out]
          exact ⟨rfl, hS.join h2⟩
        simp only [Act.put, List.setIfInBounds_toArray, List.set_cons_zero, List.set_cons_succ]
        refine calm_value (v := ?_) (by decide) rfl (fun σ w1 hS => ?_) ?_; rotate_left
        · have c0 := hS.cells
          go_simp
          rfl
        simp only [Act.put, List.setIfInBounds_toArray, List.set_cons_zero, List.set_cons_succ]
        refine calm_value (v := ?_) (by decide) rfl (fun σ w1 hS => ?_) ?_; rotate_left
        · have c0 := hS.cells
          go_simp
          rfl
        simp only [Act.put, List.setIfInBounds_toArray, List.set_cons_zero, List.set_cons_succ]
        refine calm_value (v := ?_) (by decide) rfl (fun σ w1 hS => ?_) ?_; rotate_left
        · go_simp
          rfl
        simp only [Act.put, List.setIfInBounds_toArray, List.set_cons_zero, List.set_cons_succ]
        refine calm_value (v := ?_) (by decide) rfl (fun σ w1 hS => ?_) ?_; rotate_left
        · go_simp
          rfl
        simp only [Act.put, List.setIfInBounds_toArray, List.set_cons_zero, List.set_cons_succ]
        refine calm_value (v := ?_) (by decide) rfl (fun σ w1 hS => ?_) ?_; rotate_left
        · go_simp
          rfl
        simp only [Act.put, List.setIfInBounds_toArray, List.set_cons_zero, List.set_cons_succ]
        refine calm_nil ?_
        intro wd HD
        refine wpList_nil ?_
        go_wp2
        go_meet
        exact ⟨by simp, HD⟩
      case rest =>
        clear H
        obtain ⟨rfl, H⟩ := hcut
        go_wp2
        go_round
        case rel =>
          refine ⟨k + 1, by omega, by omega, by go_num, ⟨q1, q2, q3, q4, q5, q6⟩, s1, s2, s3, s4, s5, s6, Lib.hid ?_, hs, hokq, H⟩
          rw [Pc.after_succ ds k (by have := hlen.out; omega), hx.out, hy.out, ← hp.out, hq.out]
        case measure => simp [intOf]; omega
    · go_wp2_with fail
      all_goals
        refine (awake_any _).mono ?_
        rintro e w2 ⟨_, rfl, rfl, h2⟩
        go_wp2
        go_ret
        exact ⟨_, rfl, rfl, (H.join h2).bare⟩
end Go.Proofs.Ytjjjaeocdaimpaa
