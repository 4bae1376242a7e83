/-
  Pace: the walks of the document's answer (sledgeref45).
-/
import Derived.Test.YtjjjaeocdaimpaaPaceW
namespace Go.Proofs.Ytjjjaeocdaimpaa
open Go.RowKit

/-- The document's pace, of one and the same history. -/
def Pc.rv (p : Pc) : Value := .agg #[.int .i64 p.trip, .int .i64 p.vary, .int .i64 p.doubled, .int .i64 p.now, .int .i64 p.limit, .bool p.known]
theorem size6r : (Try.prog.info? 26).map (·.size) = some 6 := by kernel_rfl

theorem floor_of (n m : Int) (hm : 0 < m) : n.tdiv m + (if n.tmod m < 0 then -1 else 0) = n / m := by
  have h1 := Int.mul_tdiv_add_tmod n m
  have h2 := Int.mul_ediv_add_emod n m
  have h3 := Int.emod_nonneg n (show m ≠ 0 by omega)
  have h4 := Int.emod_lt_of_pos n hm
  have h5 : n.tmod m < m ∧ -m < n.tmod m := by
    have a := Int.natAbs_tmod n m
    have b := Nat.mod_lt n.natAbs (show 0 < m.natAbs by omega)
    omega
  have key : ∀ a : Int, m * a < m → a < 1 := fun a h => by
    rcases Int.lt_or_le a 1 with h' | h'
    · exact h'
    · have := Int.mul_le_mul_of_nonneg_left h' (show 0 ≤ m by omega); omega
  split
  · have h6 : m * (n.tdiv m - 1 - n / m) = n % m - m - n.tmod m := by rw [Int.mul_sub, Int.mul_sub]; omega
    have h7 := key (n.tdiv m - 1 - n / m) (by omega)
    have h8 := key (n / m - (n.tdiv m - 1)) (by rw [Int.mul_sub, Int.mul_sub]; omega)
    omega
  · have h6 : m * (n.tdiv m - n / m) = n % m - n.tmod m := by rw [Int.mul_sub]; omega
    have h7 := key (n.tdiv m - n / m) (by omega)
    have h8 := key (n / m - n.tdiv m) (by rw [Int.mul_sub]; omega)
    omega

set_option maxHeartbeats 400000 in
theorem down_any (n m : Int) (hm : 0 < m) (h1 : -1000000 ≤ n) (h2 : n ≤ 1000000) (h3 : m ≤ 1000) (w : World) : Calls Try.prog 19 #[.int .i64 n, .int .i64 m] w fun e w' => e = .returned (.int .i64 (n / m)) ∧ w' = w := by
  have hfl := Lib.hid (floor_of n m hm)
  have hm0 : ¬ m = 0 := by omega
  have hq : -1000000 ≤ n.tdiv m ∧ n.tdiv m ≤ 1000000 := by
    have := Int.natAbs_tdiv_le_natAbs n m
    omega
  obtain ⟨hq1, hq2⟩ := hq
  go_enter Try.func19, Try.ntmps19
  go_wp2
  all_goals go_ret
  · exact ⟨ret_int (by rw [← hfl.out, if_pos (by assumption)]; omega), rfl⟩
  · exact ⟨ret_int (by rw [← hfl.out, if_neg (by omega)]; omega), rfl⟩

set_option maxHeartbeats 400000 in
theorem refNew_any (w : World) : Calls Try.prog 7 #[] w (Ret fun v w' => v = Pc.zero.rv ∧ Own w w' []) := by
  go_enter Try.func7, Try.ntmps7
  go_wp2
  refine ⟨rfl, Pc.zero.rv, ?_, _, rfl, rfl, ?_⟩
  · simp [results, Try.results7, go_sem, Pc.rv, Pc.zero, Pc.now, Pc.limit]
    omega
  · repeat (refine Own.poke ?_ (by simp) _)
    exact (Own.start w).alloc' _

set_option maxHeartbeats 400000 in
theorem refGap_any (p : Pc) (h : p.Ok) (w : World) : Calls Try.prog 11 #[p.rv] w (Ret fun v w' => v = p.gap.rv ∧ Own w w' []) := by
  have hn := Pc.now_bd h
  have hl := Pc.limit_bd h
  obtain ⟨q, hq⟩ : ∃ q, Hid (p.now = q) := ⟨_, rfl⟩
  obtain ⟨l, hl'⟩ : ∃ q, Hid (p.limit = q) := ⟨_, rfl⟩
  have hg : Hid (p.gap.rv = .agg #[.int .i64 p.trip, .int .i64 p.vary, .int .i64 p.doubled, .int .i64 (max (q / 2) 32), .int .i64 (max (q / 2) 32), .bool p.known]) := by
    unfold Pc.rv
    rw [Pc.gap_now, Pc.gap_limit, hq.out]
    exact rfl
  rw [hq.out] at hn
  rw [hl'.out] at hl
  obtain ⟨hn1, hn2⟩ := hn
  unfold Pc.rv
  rw [hq.out, hl'.out]
  obtain ⟨t, v, k, d, r, e⟩ := p
  simp only
  go_enter Try.func11, Try.ntmps11
  go_upto_region 1 with (fail)
  have H := (((Own.start w).alloc2 (.cells #[.int .i64 t, .int .i64 v, .int .i64 d, .int .i64 q, .int .i64 l, .bool k] 26) (.cells #[.int .i64 0, .int .i64 0, .int .i64 0, .int .i64 0, .int .i64 0, .bool false] 26)).swap)
  go_cut [] (fun wx => Own w wx [blk w.heap.size (.cells #[.int .i64 (t), .int .i64 (v), .int .i64 (d), .int .i64 (q), .int .i64 (q / 2), .bool k] 26), blk (w.heap.size + 1) (.cells #[.int .i64 0, .int .i64 0, .int .i64 0, .int .i64 0, .int .i64 0, .bool false] 26)])
  case first =>
    have c0 := H.cells
    go_wp2_with (refine wpList_store_int rfl _ _ rfl rfl H rfl size1 (by simp) ?_; clear H c0; intro w' H; have c0 := H.cells)
    go_meet
    exact H
  case rest =>
    clear H
    have H := hcut
    clear hcut
    have c0 := H.cells
    by_cases hb : q / 2 < 32
    all_goals
      go_wp2_with (first | (refine wpList_store_int rfl _ _ rfl rfl H rfl size1 (by simp) ?_; clear H c0; intro w' H; have c0 := H.cells) | (refine wpList_store_agg rfl _ _ rfl rfl (H.front 1 rfl) rfl size6r (by simp) (by simp [Value.oneCell']) rfl ?_; clear H c0; intro w' H; have c0 := H.cells))
      refine ⟨rfl, _, ?_, _, rfl, hg.out.symm, H.bare⟩
      simp [results, Try.results11, go_sem, c0]
      try omega

set_option maxHeartbeats 400000 in
theorem refLost_any (p : Pc) (h : p.Ok) (w : World) : Calls Try.prog 10 #[p.rv] w (Ret fun v w' => v = p.lost.rv ∧ Own w w' []) := by
  have hG := Lib.hid (refGap_any p h)
  have hk := Pc.gap_ok h
  obtain ⟨gv, hgv⟩ : ∃ g, Hid (p.gap.rv = g) := ⟨_, rfl⟩
  obtain ⟨gt, gva, gd, gn, gl, gk, hg⟩ : ∃ (gt gva gd gn gl : Int) (gk : Bool), Hid (gv = .agg #[.int .i64 gt, .int .i64 gva, .int .i64 gd, .int .i64 gn, .int .i64 gl, .bool gk] ∧ 0 ≤ gd ∧ gd ≤ 6 ∧
      p.lost.rv = .agg #[.int .i64 gt, .int .i64 gva, .int .i64 (if gd < 6 then gd + 1 else gd), .int .i64 16, .int .i64 gl, .bool gk]) :=
    ⟨p.gap.trip, p.gap.vary, p.gap.doubled, p.gap.now, p.gap.limit, p.gap.known, hgv.out.symm, hk.d0, hk.d1, rfl⟩
  obtain ⟨hg1, hg2, hg3, hg4⟩ := hg.out
  have HP := Lib.hid hg4
  clear hg hg4
  obtain ⟨pv, hpv⟩ : ∃ g, Hid (p.rv = g) := ⟨_, rfl⟩
  rw [hpv.out]
  obtain ⟨a1, a2, a3, a4, a5, a6, ha⟩ : ∃ (a1 a2 a3 a4 a5 : Int) (a6 : Bool), pv = .agg #[.int .i64 a1, .int .i64 a2, .int .i64 a3, .int .i64 a4, .int .i64 a5, .bool a6] := ⟨_, _, _, _, _, _, hpv.out.symm⟩
  rw [hpv.out] at hG
  subst ha hg1
  go_enter Try.func10, Try.ntmps10
  go_wp2_with fail
  refine (hG.out _).mono ?_
  rintro e1 w1 ⟨_, rfl, rfl, h1⟩
  rw [hgv.out]
  have H := (((Own.start w).alloc2 _ _).join h1).front 1 rfl
  clear h1
  have c0 := H.cells
  by_cases hb : gd < 6
  all_goals
    go_wp2_with (first | (refine wpList_store_int rfl _ _ rfl rfl H rfl size1 (by simp) ?_; clear H c0; intro w' H; have c0 := H.cells) | (refine wpList_store_agg rfl _ _ rfl rfl H rfl size6r (by simp) (by simp [Value.oneCell']) rfl ?_; clear H c0; intro w' H; have c0 := H.cells) | (refine wpList_store_agg rfl _ _ rfl rfl (H.front 1 rfl) rfl size6r (by simp) (by simp [Value.oneCell']) rfl ?_; clear H c0; intro w' H; have c0 := H.cells))
    refine ⟨rfl, _, ?_, _, rfl, HP.out.symm, H.bare⟩
    simp [results, Try.results10, go_sem, c0]
    try omega

set_option maxHeartbeats 800000 in
theorem refCame_any (p : Pc) (h : p.Ok) (n : Int) (w : World) : Calls Try.prog 9 #[p.rv, .int .i64 n] w (Ret fun v w' => v = (p.came n).rv ∧ Own w w' []) := by
  have hn := Pc.now_bd h
  have hl := Pc.limit_bd h
  have ht : 0 ≤ Pc.tick n ∧ Pc.tick n ≤ 64 := by unfold Pc.tick; omega
  obtain ⟨x, hx⟩ : ∃ x, Hid (Pc.tick n = x) := ⟨_, rfl⟩
  obtain ⟨q, hq⟩ : ∃ q, Hid (p.now = q) := ⟨_, rfl⟩
  obtain ⟨l, hl'⟩ : ∃ q, Hid (p.limit = q) := ⟨_, rfl⟩
  have hcame : Hid ((p.came n).rv = .agg #[.int .i64 (if p.known then p.trip + (x - p.trip / 8) else 8 * x), .int .i64 (if p.known then p.vary + (absI (x - p.trip / 8) - p.vary / 4) else 2 * x), .int .i64 0,
      .int .i64 (min (if q < l then q + 16 else q + max 1 (256 / q)) 1024), .int .i64 l, .bool true]) := by
    unfold Pc.rv Pc.came
    rw [Pc.grown_now (Pc.took_ok h n), Pc.grown_limit, Pc.took_now, Pc.took_limit, hq.out, hl'.out]
    unfold Pc.took
    rw [hx.out]
    cases p.known <;> exact rfl
  rw [hx.out] at ht
  rw [hq.out] at hn
  rw [hl'.out] at hl
  obtain ⟨hn1, hn2⟩ := hn
  obtain ⟨hl1, hl2⟩ := hl
  obtain ⟨ht0, ht1⟩ := ht
  have hd1 : 0 ≤ 256 / q := Int.ediv_nonneg (by omega) (by omega)
  have hd2 : 256 / q ≤ 16 := by
    have := Int.mul_ediv_add_emod 256 q
    have := Int.emod_nonneg 256 (show q ≠ 0 by omega)
    have : 16 * (256 / q) ≤ q * (256 / q) := Int.mul_le_mul_of_nonneg_right hn1 hd1
    omega
  have hd3 : q ≤ 256 → 1 ≤ 256 / q := fun hle => (Int.le_ediv_iff_mul_le (by omega)).2 (by omega)
  have hd4 : 256 < q → 256 / q = 0 := fun hlt => Int.ediv_eq_zero_of_lt (by omega) hlt
  have HD3 := Lib.hid hd3; clear hd3
  have HD4 := Lib.hid hd4; clear hd4
  unfold Pc.rv
  rw [hq.out, hl'.out]
  obtain ⟨h1, h2, h3, h4, h5, h6, _, _, _, _⟩ := h
  obtain ⟨t, v, k, d, r, e⟩ := p
  simp only at h1 h2 h3 h4 h5 h6 hcame ⊢
  obtain ⟨T, hT⟩ : ∃ T, Hid ((if k then t + (x - t / 8) else 8 * x) = T) := ⟨_, rfl⟩
  obtain ⟨V, hV⟩ : ∃ V, Hid ((if k then v + (absI (x - t / 8) - v / 4) else 2 * x) = V) := ⟨_, rfl⟩
  have HC : Hid ((Pc.came ⟨t, v, k, d, r, e⟩ n).rv = .agg #[.int .i64 T, .int .i64 V, .int .i64 0, .int .i64 (min (if q < l then q + 16 else q + max 1 (256 / q)) 1024), .int .i64 l, .bool true]) := by
    rw [← hT.out, ← hV.out]; exact hcame
  clear hcame
  have H := (((Own.start w).alloc2 (.cells #[.int .i64 t, .int .i64 v, .int .i64 d, .int .i64 q, .int .i64 l, .bool k] 26) (.cells #[.int .i64 0, .int .i64 0, .int .i64 0, .int .i64 0, .int .i64 0, .bool false] 26)).swap)
  go_enter Try.func9, Try.ntmps9
  go_upto_if 10 with (fail)
  go_cut [5] (fun s5 wx => s5 = .int .i64 (max n 0) ∧ Own w wx [blk w.heap.size (.cells #[.int .i64 (t), .int .i64 (v), .int .i64 (d), .int .i64 (q), .int .i64 (l), .bool k] 26), blk (w.heap.size + 1) (.cells #[.int .i64 0, .int .i64 0, .int .i64 0, .int .i64 0, .int .i64 0, .bool false] 26)])
  case first =>
    go_wp2
    all_goals go_meet
    all_goals exact ⟨val_int (by omega), H⟩
  case rest =>
  clear H
  obtain ⟨rfl, H⟩ := hcut
  go_upto_if 12 with (fail)
  go_cut [5] (fun s5 wx => s5 = .int .i64 x ∧ Own w wx [blk w.heap.size (.cells #[.int .i64 (t), .int .i64 (v), .int .i64 (d), .int .i64 (q), .int .i64 (l), .bool k] 26), blk (w.heap.size + 1) (.cells #[.int .i64 0, .int .i64 0, .int .i64 0, .int .i64 0, .int .i64 0, .bool false] 26)])
  case first =>
    go_wp2
    all_goals go_meet
    all_goals exact ⟨val_int (by rw [← hx.out]; unfold Pc.tick; omega), H⟩
  case rest =>
  clear H
  obtain ⟨rfl, H⟩ := hcut
  have c0 := H.cells
  go_upto_if 15 with (fail)
  go_cut [] (fun wx => Own w wx [blk w.heap.size (.cells #[.int .i64 (T), .int .i64 (V), .int .i64 (d), .int .i64 (q), .int .i64 (l), .bool true] 26), blk (w.heap.size + 1) (.cells #[.int .i64 0, .int .i64 0, .int .i64 0, .int .i64 0, .int .i64 0, .bool false] 26)])
  case first =>
    cases k
    · go_wp2_with (first | (refine wpList_store_int rfl _ _ rfl rfl H rfl size1 (by simp) ?_; clear H c0; intro w' H; have c0 := H.cells) | (refine wpList_store_bool rfl _ _ rfl rfl H rfl size1b (by simp) ?_; clear H c0; intro w' H; have c0 := H.cells))
      all_goals go_meet
      all_goals rw [← hT.out, ← hV.out]
      all_goals exact H
    · have hab : 0 ≤ absI (x - t / 8) ∧ absI (x - t / 8) ≤ 64 := by unfold absI; omega
      obtain ⟨y, hy⟩ : ∃ y, Hid (absI (x - t / 8) = y) := ⟨_, rfl⟩
      rw [hy.out] at hab hV
      obtain ⟨hab0, hab1⟩ := hab
      go_upto_if 30 with (go_at_call 19; refine (down_any t 8 (by omega) (by omega) (by omega) (by omega) _).mono ?_; rintro e1 w1 ⟨rfl, rfl⟩)
      go_cut [7] (fun s7 wx => s7 = .int .i64 y ∧ wx = w1)
      case first =>
        go_wp2
        all_goals go_meet
        all_goals exact ⟨val_int (by rw [← hy.out]; unfold absI; omega), rfl⟩
      case rest =>
      obtain ⟨rfl, rfl⟩ := hcut
      go_upto_region 14 with (fail)
      go_cut [] (fun wx => Own w wx [blk w.heap.size (.cells #[.int .i64 (t), .int .i64 (v + (y - v / 4)), .int .i64 (d), .int .i64 (q), .int .i64 (l), .bool true] 26), blk (w.heap.size + 1) (.cells #[.int .i64 0, .int .i64 0, .int .i64 0, .int .i64 0, .int .i64 0, .bool false] 26)])
      case first =>
        refine wp_region_still_tail 9 (by kernel_rfl) (by kernel_rfl) ?_
        simp only [List.take_succ_cons, List.take_zero, List.drop_succ_cons, List.drop_zero]
        repeat still_step
        still_call (down_any v 4 (by omega) (by omega) (by omega) (by omega) _)
        repeat still_step
        refine wpStill_nil ?_
        change wpList _ _ _ _ _ (World.drew _)
        have HD := H.drew
        generalize World.drew _ = wd at *
        go_wp2_with (refine wpList_store_int rfl _ _ rfl rfl HD rfl size1 (by simp) ?_; clear HD; intro w' HD)
        go_meet
        rw [IntWalk.i64_in (v + y) (by omega), IntWalk.i64_in (v + y - v / 4) (by omega), show v + y - v / 4 = v + (y - v / 4) by omega] at HD
        exact HD
      case rest =>
        clear H c0
        have H := hcut
        clear hcut
        have c0 := H.cells
        go_wp2_with (refine wpList_store_int rfl _ _ rfl rfl H rfl size1 (by simp) ?_; clear H c0; intro w' H; have c0 := H.cells)
        go_meet
        rw [← hT.out, ← hV.out]
        exact H
  case rest =>
  clear H c0
  have H := hcut
  clear hcut
  have c0 := H.cells
  obtain ⟨z, hz⟩ : ∃ z, Hid ((if q < l then q + 16 else q + max 1 (256 / q)) = z) := ⟨_, rfl⟩
  have hz1 : 16 ≤ z ∧ z ≤ 2048 := by
    rw [← hz.out]
    split <;> omega
  rw [hz.out] at HC
  obtain ⟨hz1, hz2⟩ := hz1
  go_upto_if 52 with (refine wpList_store_int rfl _ _ rfl rfl H rfl size1 (by simp) ?_; clear H c0; intro w' H; have c0 := H.cells)
  go_cut [] (fun wx => Own w wx [blk w.heap.size (.cells #[.int .i64 (T), .int .i64 (V), .int .i64 (0), .int .i64 (z), .int .i64 (l), .bool true] 26), blk (w.heap.size + 1) (.cells #[.int .i64 0, .int .i64 0, .int .i64 0, .int .i64 0, .int .i64 0, .bool false] 26)])
  case first =>
    by_cases hb1 : q < l
    · go_wp2_with (refine wpList_store_int rfl _ _ rfl rfl H rfl size1 (by simp) ?_; clear H c0; intro w' H; have c0 := H.cells)
      go_meet
      rw [← hz.out, if_pos (by omega)]
      exact H
    · by_cases hb2 : 256 < q
      · go_wp2_with (refine wpList_store_int rfl _ _ rfl rfl H rfl size1 (by simp) ?_; clear H c0; intro w' H; have c0 := H.cells)
        go_meet
        rw [← hz.out, if_neg (by omega), HD4.out (by omega)]
        exact H
      · have hq0 : ¬ q = 0 := by omega
        have hqd : (256 : Int).tdiv q = 256 / q := Int.tdiv_eq_ediv_of_nonneg (by omega)
        have HQ := Lib.hid hqd
        clear hqd
        go_wp2_with fail
        refine wp_region_still_tail 7 (by kernel_rfl) (by kernel_rfl) ?_
        simp only [List.take_succ_cons, List.take_zero, List.drop_succ_cons, List.drop_zero]
        repeat still_step
        refine wpStill_nil ?_
        change wpList _ _ _ _ _ (World.drew _)
        have HD := H.drew
        generalize World.drew _ = wd at *
        go_wp2_with (refine wpList_store_int rfl _ _ rfl rfl HD rfl size1 (by simp) ?_; clear HD; intro w' HD)
        go_meet
        have hlo := HD3.out (by omega)
        rw [HQ.out, IntWalk.i64_in (256 / q) (by omega), IntWalk.i64_in (q + 256 / q) (by omega), show q + 256 / q = z by rw [← hz.out, if_neg (by omega)]; omega] at HD
        exact HD
  case rest =>
  clear H c0
  have H := hcut
  clear hcut
  have c0 := H.cells
  by_cases hb3 : 1024 < z
  all_goals
    go_wp2_with (first | (refine wpList_store_int rfl _ _ rfl rfl H rfl size1 (by simp) ?_; clear H c0; intro w' H; have c0 := H.cells) | (refine wpList_store_agg rfl _ _ rfl rfl (H.front 1 rfl) rfl size6r (by simp) (by simp [Value.oneCell']) rfl ?_; clear H c0; intro w' H; have c0 := H.cells))
    refine ⟨rfl, _, ?_, _, rfl, HC.out.symm, H.bare⟩
    simp [results, Try.results9, go_sem, c0]
    try omega

theorem pow_step (b : Int) (j : Nat) : b * 2 ^ (j + 1) = 2 * (b * 2 ^ j) := by rw [Int.pow_succ, ← Int.mul_assoc]; omega

set_option maxHeartbeats 800000 in
theorem refWait_any (p : Pc) (h : p.Ok) (w : World) : Calls Try.prog 13 #[p.rv] w (Ret fun v w' => v = .int .i64 p.wait ∧ Own w w' []) := by
  obtain ⟨h1, h2, h3, h4, h5, h6, _, _, _, _⟩ := h
  obtain ⟨q, hq⟩ : ∃ q, Hid (p.now = q) := ⟨_, rfl⟩
  obtain ⟨l, hl'⟩ : ∃ q, Hid (p.limit = q) := ⟨_, rfl⟩
  unfold Pc.rv
  rw [hq.out, hl'.out]
  obtain ⟨t, v, k, d, r, e⟩ := p
  simp only at h1 h2 h3 h4 h5 h6
  obtain ⟨b, hb⟩ : ∃ b : Int, Hid (max (if k then t / 8 + max v 1 else 2) 2 = b) := ⟨_, rfl⟩
  have hb1 : 2 ≤ b ∧ b ≤ 400 := by rw [← hb.out]; split <;> omega
  obtain ⟨hb1, hb2⟩ := hb1
  have hpw : Hid (Pc.wait ⟨t, v, k, d, r, e⟩ = min (b * 2 ^ d.toNat) 64) := by rw [← hb.out]; exact rfl
  obtain ⟨m, rfl⟩ : ∃ m : Nat, d = m := ⟨d.toNat, by omega⟩
  rw [Int.toNat_natCast] at hpw
  have hc0 := ((Own.start w).alloc (.cells #[.int .i64 t, .int .i64 v, .int .i64 m, .int .i64 q, .int .i64 l, .bool k] 26)).cells
  have HC := Lib.hid hc0
  have HO := (Own.start w).alloc' (.cells #[.int .i64 t, .int .i64 v, .int .i64 m, .int .i64 q, .int .i64 l, .bool k] 26)
  simp only
  go_enter Try.func13, Try.ntmps13
  go_upto_if 7 with (fail)
  go_cut [3] (fun s3 wx => (∀ i, wx.cell? ⟨w.heap.size, i, none⟩ = #[.int .i64 t, .int .i64 v, .int .i64 m, .int .i64 q, .int .i64 l, .bool k][i]?) ∧ Own w wx [] ∧ ∃ b', s3 = .int .i64 b' ∧ 1 ≤ b' ∧ b' ≤ 400 ∧ Hid (max b' 2 = b))
  case first =>
    clear hc0
    generalize World.alloc w _ = w1 at *
    have hc0 := HC.out
    cases k
    · go_wp2
      go_meet
      exact ⟨hc0, HO, _, rfl, by omega, by omega, Lib.hid (by rw [← hb.out]; rfl)⟩
    · by_cases hv : v < 1
      all_goals
        go_wp2_with (go_at_call 19; refine (down_any t 8 (by omega) (by omega) (by omega) (by omega) _).mono ?_; rintro e1 w2 ⟨rfl, rfl⟩)
        go_meet
        exact ⟨hc0, HO, _, rfl, by omega, by omega, Lib.hid (by rw [← hb.out]; simp; omega)⟩
  case rest =>
    clear hc0 HC HO
    obtain ⟨hc0, HO, b', rfl, hb3, hb4, hb5⟩ := hcut
    go_upto_if 18 with (fail)
    go_cut [3] (fun s3 wx => wx = wc ∧ s3 = .int .i64 b)
    case first =>
      go_wp2
      all_goals go_meet
      all_goals exact ⟨rfl, val_int (by have := hb5.out; omega)⟩
    case rest =>
      obtain ⟨rfl, rfl⟩ := hcut
      go_wp2_with fail
      go_loop [3, 5] (fun x i => ∃ j : Nat, ∃ y : Int, j ≤ m ∧ i = .int .i64 j ∧ x = .int .i64 y ∧ 0 ≤ y ∧ y ≤ 25600 ∧ Hid (y = b * 2 ^ j)) (fun _ i => m - (intOf i).toNat)
      case atStart => exact ⟨0, b, Nat.zero_le _, rfl, rfl, by omega, by omega, Lib.hid (by simp)⟩
      case round =>
        obtain ⟨j, y, hj, rfl, rfl, hy0, hy1, hy⟩ := hrel
        by_cases hlt : j < m
        · go_wp2
          go_round
          case rel =>
            have hp6 := pow6 ((j + 1 : Nat) : Int) (by omega) (by omega)
            rw [Int.toNat_natCast] at hp6
            have e : 2 * y = b * 2 ^ (j + 1) := by rw [pow_step, hy.out]
            refine ⟨j + 1, 2 * y, by omega, by go_num, rfl, by omega, ?_, Lib.hid e⟩
            rw [e]
            refine Int.le_trans (Int.mul_le_mul_of_nonneg_right hb2 (by omega)) ?_
            omega
          case measure => simp [intOf]; omega
        · obtain rfl : j = m := by omega
          go_wp2
          all_goals
            go_ret
            refine ⟨_, rfl, val_int ?_, HO⟩
            rw [hpw.out, ← hy.out]
            omega
end Go.Proofs.Ytjjjaeocdaimpaa
