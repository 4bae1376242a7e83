/-
  Pace: the walks of package pace.
-/
import Derived.Test.YtjjjaeocdaimpaaPaceP
import Derived.Test.YtjjjaeocdaimpaaRows
import Derived.WalkSpells
import Derived.WalkLawsBesides
import Derived.BigQuiet
import Derived.Deep.DeepCutAuto
import Derived.Deep.CutBlock
import Derived.Deep.LoopGhost
import Derived.Deep.QuietTactic
import Derived.StillTailTactics
import Derived.Test.YtjjjaeocdaimpaaSt
namespace Go.Proofs.Ytjjjaeocdaimpaa
open Go.RowKit

set_option maxHeartbeats 400000 in
theorem now_any (p : Pc) (h : p.Ok) (w : World) : Calls Try.prog 20 #[p.val] w (Ret fun v w' => v = .int .i64 p.now ∧ Own w w' []) := by
  obtain ⟨t, v, k, d, r, e⟩ := p
  unfold Pc.val
  go_enter Try.func20, Try.ntmps20
  go_wp2
  all_goals go_ret
  all_goals exact ⟨_, rfl, val_int (by simp only [Pc.now]; omega), (Own.start w).alloc' _⟩

set_option maxHeartbeats 400000 in
theorem limit_any (p : Pc) (h : p.Ok) (w : World) : Calls Try.prog 23 #[p.val] w (Ret fun v w' => v = .int .i64 p.limit ∧ Own w w' []) := by
  obtain ⟨t, v, k, d, r, e⟩ := p
  have he := h.e0
  have he1 := h.e1
  simp only at he he1
  unfold Pc.val
  by_cases h0 : e = 0
  · subst h0
    go_enter Try.func23, Try.ntmps23
    go_wp2
    go_ret
    exact ⟨_, rfl, rfl, ((Own.start w).alloc' _).alloc' _⟩
  · have h1 : 32 ≤ e := by omega
    have h2 : Hid (Pc.limit ⟨t, v, k, d, r, e⟩ = e) := Lib.hid (if_neg h0)
    clear h0 he
    go_enter Try.func23, Try.ntmps23
    go_wp2
    go_ret
    exact ⟨_, rfl, val_int h2.out.symm, ((Own.start w).alloc' _).alloc' _⟩

set_option maxHeartbeats 400000 in
theorem gap_any (p : Pc) (h : p.Ok) (w : World) : Calls Try.prog 18 #[p.val] w (Ret fun v w' => v = p.gap.val ∧ Own w w' []) := by
  have hn := Pc.now_bd h
  have hN := Lib.hid (now_any p h)
  obtain ⟨q, hq⟩ : ∃ q, Hid (p.now = q) := ⟨_, rfl⟩
  rw [hq.out] at hn
  obtain ⟨hn1, hn2⟩ := hn
  obtain ⟨t, v, k, d, r, e⟩ := p
  unfold Pc.val
  go_enter Try.func18, Try.ntmps18
  go_wp2_with fail
  refine (hN.out _).mono ?_
  rintro e1 w1 ⟨_, rfl, rfl, h1⟩
  rw [hq.out]
  have H1 := ((Own.start w).alloc2 _ _).join h1
  have c0 := (H1.front 1 rfl).cells
  have f0 := (H1.front 1 rfl).free
  have c1 := H1.cells
  have f1 := H1.free
  go_wp2
  all_goals
    refine ⟨rfl, Pc.val ⟨t, v, k, d, max (q / 2) 32, max (q / 2) 32⟩, ?_, _, rfl, ?_, ?_⟩
    · simp [results, Try.results18, go_sem, Pc.val, c1]
      omega
    · simp only [Pc.gap, Pc.val]
      rw [hq.out]
    · repeat (refine Own.poke ?_ (by simp) _)
      exact H1.bare

set_option maxHeartbeats 400000 in
theorem grown_any (p : Pc) (h : p.Ok) (w : World) : Calls Try.prog 22 #[p.val] w (Ret fun v w' => v = p.grown.val ∧ Own w w' []) := by
  have hn := Pc.now_bd h
  have hN := Lib.hid (now_any p h)
  have hl := Pc.limit_bd h
  have hL := Lib.hid (limit_any p h)
  obtain ⟨q, hq⟩ : ∃ q, Hid (p.now = q) := ⟨_, rfl⟩
  obtain ⟨l, hl'⟩ : ∃ q, Hid (p.limit = q) := ⟨_, rfl⟩
  rw [hq.out] at hn
  rw [hl'.out] at hl
  obtain ⟨hn1, hn2⟩ := hn
  obtain ⟨hl1, hl2⟩ := hl
  have hd1 : 0 ≤ 256 / q := Int.ediv_nonneg (by omega) (by omega)
  have hd2 : 256 / q ≤ 16 := by
    have := Int.mul_ediv_add_emod 256 q
    have := Int.emod_nonneg 256 (show q ≠ 0 by omega)
    have : 16 * (256 / q) ≤ q * (256 / q) := Int.mul_le_mul_of_nonneg_right hn1 hd1
    omega
  obtain ⟨t, v, k, d, r, e⟩ := p
  unfold Pc.val
  go_enter Try.func22, Try.ntmps22
  go_wp2_with fail
  refine (hN.out _).mono ?_
  rintro e1 w1 ⟨_, rfl, rfl, h1⟩
  rw [hq.out]
  have H1 := ((Own.start w).alloc2 _ _).join h1
  have c0 := (H1.front 1 rfl).cells
  go_wp2_with fail
  refine (hL.out _).mono ?_
  rintro e2 w2 ⟨_, rfl, rfl, h2⟩
  rw [hl'.out]
  have H2 := H1.join h2
  clear c0
  have c0 := (H2.front 1 rfl).cells
  have f0 := (H2.front 1 rfl).free
  have c1 := H2.cells
  have f1 := H2.free
  go_wp2
  all_goals
    refine ⟨rfl, Pc.val ⟨t, v, k, d, min (if q < l then q + 16 else q + max 1 (256 / q)) 1024, e⟩, ?_, _, rfl, ?_, ?_⟩
    · simp [results, Try.results22, go_sem, Pc.val, c1]
      (try split) <;> omega
    · simp only [Pc.grown, Pc.val]
      rw [hq.out, hl'.out]
    · repeat (refine Own.poke ?_ (by simp) _)
      exact H2.bare

set_option maxHeartbeats 400000 in
theorem abs_any (n : Int) (hn : -1000000 ≤ n ∧ n ≤ 1000000) (w : World) : Calls Try.prog 21 #[.int .i64 n] w fun e w' => e = .returned (.int .i64 (absI n)) ∧ w' = w := by
  obtain ⟨h1, h2⟩ := hn
  go_enter Try.func21, Try.ntmps21
  go_wp2
  all_goals go_ret
  all_goals exact ⟨ret_int (by unfold absI; omega), rfl⟩

set_option maxHeartbeats 400000 in
theorem rate_any (p : Pc) (h : p.Ok) (w : World) : Calls Try.prog 14 #[p.val] w (Ret fun v w' => v = .int .i64 p.rateOf ∧ Own w w' []) := by
  have hn := Pc.now_bd h
  have hN := Lib.hid (now_any p h)
  obtain ⟨q, hq⟩ : ∃ q, Hid (p.now = q) := ⟨_, rfl⟩
  rw [hq.out] at hn
  obtain ⟨hn1, hn2⟩ := hn
  obtain ⟨t, v, k, d, r, e⟩ := p
  unfold Pc.val
  go_enter Try.func14, Try.ntmps14
  go_wp2_with fail
  refine (hN.out _).mono ?_
  rintro e1 w1 ⟨_, rfl, rfl, h1⟩
  rw [hq.out]
  have H1 := ((Own.start w).alloc _).join h1
  go_wp2
  go_ret
  exact ⟨_, rfl, val_int (by simp only [Pc.rateOf]; rw [hq.out]), H1.bare⟩


theorem size6 : (Try.prog.info? 24).map (·.size) = some 6 := by kernel_rfl
theorem size1b : (Try.prog.info? 4).map (·.size) = some 1 := by kernel_rfl
theorem size1 : (Try.prog.info? 3).map (·.size) = some 1 := by kernel_rfl

set_option maxHeartbeats 400000 in
theorem lost_any (p : Pc) (h : p.Ok) (w : World) : Calls Try.prog 17 #[p.val] w (Ret fun v w' => v = p.lost.val ∧ Own w w' []) := by
  have hG := Lib.hid (gap_any p h)
  have hk := Pc.gap_ok h
  obtain ⟨g, hg⟩ : ∃ g, Hid (p.gap = g) := ⟨_, rfl⟩
  have hpl : Hid (p.lost = { g with rate := 16, doubled := if g.doubled < 6 then g.doubled + 1 else g.doubled }) := by rw [← hg.out]; exact rfl
  obtain ⟨t, v, k, d, r, e⟩ := p
  rw [hg.out] at hk
  obtain ⟨gt, gv, gk, gd, gr, ge⟩ := g
  have hd0 := hk.d0
  have hd1 := hk.d1
  simp only at hd0 hd1
  unfold Pc.val
  go_enter Try.func17, Try.ntmps17
  go_wp2_with fail
  refine (hG.out _).mono ?_
  rintro e1 w1 ⟨_, rfl, rfl, h1⟩
  rw [hg.out]
  have H1 := ((Own.start w).alloc2 _ _).join h1
  have HA := H1.front 1 rfl
  clear H1
  have c0 := HA.cells
  unfold Pc.val
  go_wp2_with (first
    | (refine wpList_store_agg rfl _ _ rfl rfl HA rfl size6 (by simp) (by simp [Value.oneCell']) rfl ?_; clear HA c0; intro w' HA; have c0 := HA.cells)
    | (refine wpList_store_int rfl _ _ rfl rfl HA rfl size1 (by simp) ?_; clear HA c0; intro w' HA; have c0 := HA.cells)
    | (refine wpList_store_agg rfl _ _ rfl rfl (HA.front 1 rfl) rfl size6 (by simp) (by simp [Value.oneCell']) rfl ?_; clear HA c0; intro w' HA; have c0 := HA.cells))
  all_goals
    refine ⟨rfl, Pc.val ⟨gt, gv, gk, if gd < 6 then gd + 1 else gd, 16, ge⟩, ?_, _, rfl, ?_, HA.bare⟩
    · simp [results, Try.results17, go_sem, Pc.val, c0]
      try omega
    · rw [hpl.out]; rfl

theorem pow6 (d : Int) (h0 : 0 ≤ d) (h1 : d ≤ 6) : (1 : Int) ≤ 2 ^ d.toNat ∧ (2 : Int) ^ d.toNat ≤ 64 := by
  have : d = 0 ∨ d = 1 ∨ d = 2 ∨ d = 3 ∨ d = 4 ∨ d = 5 ∨ d = 6 := by omega
  rcases this with rfl | rfl | rfl | rfl | rfl | rfl | rfl <;> decide

set_option maxHeartbeats 400000 in
theorem wait_any (p : Pc) (h : p.Ok) (w : World) : Calls Try.prog 12 #[p.val] w (Ret fun v w' => v = .int .i64 p.wait ∧ Own w w' []) := by
  obtain ⟨h1, h2, h3, h4, h5, h6, _, _, _, _⟩ := h
  obtain ⟨t, v, k, d, r, e⟩ := p
  simp only at h1 h2 h3 h4 h5 h6
  have hp := Lib.hid (pow6 d h5 h6)
  obtain ⟨b0, hb0⟩ : ∃ b0 : Int, Hid ((if k then t / 8 + max v 1 else 2) = b0) := ⟨_, rfl⟩
  have hpw : Hid (Pc.wait ⟨t, v, k, d, r, e⟩ = min (max b0 2 * 2 ^ d.toNat) 64) := by rw [← hb0.out]; exact rfl
  obtain ⟨K, hK⟩ : ∃ K : Value, K = .bool k := ⟨_, rfl⟩
  unfold Pc.val
  cases k
  all_goals
    go_enter Try.func12, Try.ntmps12
    go_upto_if 5 with (fail)
    go_cut [3] (fun s3 wx => Own w wx [] ∧ (∀ i, wx.cell? ⟨w.heap.size, i, none⟩ = #[.int .i64 t, .int .i64 v, K, .int .i64 d, .int .i64 r, .int .i64 e][i]?) ∧ ∃ b : Int, s3 = .int .i64 b ∧ 1 ≤ b ∧ b ≤ 400 ∧ Hid (b0 = b))
    case first =>
      go_wp2
      all_goals go_meet
      all_goals exact ⟨(Own.start w).alloc' _, by rw [hK]; exact ((Own.start w).alloc _).cells, _, rfl, by omega, by omega, Lib.hid (by rw [← hb0.out]; simp; try omega)⟩
    case rest =>
      obtain ⟨H, hc, b, rfl, hb1, hb2, hb⟩ := hcut
      clear hK
      have hb3 : 0 ≤ b * 2 ^ d.toNat ∧ b * 2 ^ d.toNat ≤ 25600 := by
        obtain ⟨p1, p2⟩ := hp.out
        refine ⟨Int.mul_nonneg (by omega) (by omega), ?_⟩
        refine Int.le_trans (Int.mul_le_mul_of_nonneg_right hb2 (by omega)) ?_
        omega
      have hb4 : 0 ≤ (2 : Int) * 2 ^ d.toNat ∧ (2 : Int) * 2 ^ d.toNat ≤ 25600 := by have := hp.out; omega
      obtain ⟨hb3, hb5⟩ := hb3
      obtain ⟨hb4, hb6⟩ := hb4
      by_cases hb7 : b < 2
      all_goals
        go_wp2
        all_goals
          go_ret
          refine ⟨_, rfl, val_int ?_, H⟩
          rw [hpw.out, hb.out]
          first | (rw [show max b 2 = 2 by omega]; omega) | (rw [show max b 2 = b by omega]; omega)

set_option maxHeartbeats 400000 in
theorem came_any (p : Pc) (h : p.Ok) (n : Int) (w : World) : Calls Try.prog 16 #[p.val, .int .i64 n] w (Ret fun v w' => v = (p.came n).val ∧ Own w w' []) := by
  have hok := Lib.hid (Pc.took_ok h n)
  obtain ⟨h1, h2, h3, h4, h5, h6, _, _, _, _⟩ := h
  have ht : 0 ≤ Pc.tick n ∧ Pc.tick n ≤ 64 := by unfold Pc.tick; omega
  obtain ⟨x, hx⟩ : ∃ x, Hid (Pc.tick n = x) := ⟨_, rfl⟩
  rw [hx.out] at ht
  obtain ⟨ht0, ht1⟩ := ht
  obtain ⟨t, v, k, d, r, e⟩ := p
  simp only at h1 h2 h3 h4 h5 h6
  obtain ⟨T, hT⟩ : ∃ T, Hid ((if k then t + (x - t / 8) else 8 * x) = T) := ⟨_, rfl⟩
  obtain ⟨V, hV⟩ : ∃ V, Hid ((if k then v + (absI (x - t / 8) - v / 4) else 2 * x) = V) := ⟨_, rfl⟩
  have hq : Hid (Pc.took ⟨t, v, k, d, r, e⟩ n = ⟨T, V, true, 0, r, e⟩) := by
    rw [← hT.out, ← hV.out]
    unfold Pc.took
    rw [hx.out]
    cases k <;> rfl
  have hcame : Hid (Pc.came ⟨t, v, k, d, r, e⟩ n = Pc.grown ⟨T, V, true, 0, r, e⟩) := by unfold Pc.came; rw [hq.out]; exact rfl
  rw [hq.out] at hok
  obtain ⟨z, hz⟩ : ∃ z, Hid (Pc.grown ⟨T, V, true, 0, r, e⟩ = z) := ⟨_, rfl⟩
  rw [hz.out] at hcame
  unfold Pc.val
  go_enter Try.func16, Try.ntmps16
  go_upto_region 1 with (fail)
  go_cut [5] (fun s5 wx => s5 = .int .i64 x ∧ Own w wx [blk w.heap.size (.cells #[.int .i64 (t), .int .i64 (v), .bool k, .int .i64 (d), .int .i64 r, .int .i64 e] 24), blk (w.heap.size + 1) (.cells #[.int .i64 0, .int .i64 0, .bool false, .int .i64 0, .int .i64 0, .int .i64 0] 24)])
  case first =>
    go_wp2
    all_goals go_meet
    all_goals exact ⟨val_int (by rw [← hx.out]; unfold Pc.tick; omega), ((Own.start w).alloc2 _ _).swap⟩
  case rest =>
    obtain ⟨rfl, H⟩ := hcut
    have c0 := H.cells
    go_upto_block 0 with (fail)
    go_cut [] (fun wx => Own w wx [blk w.heap.size (.cells #[.int .i64 T, .int .i64 V, .bool true, .int .i64 (d), .int .i64 r, .int .i64 e] 24), blk (w.heap.size + 1) (.cells #[.int .i64 0, .int .i64 0, .bool false, .int .i64 0, .int .i64 0, .int .i64 0] 24)])
    case first =>
      cases k
      · go_wp2_with (first
          | (refine wpList_store_int rfl _ _ rfl rfl H rfl size1 (by simp) ?_; clear H c0; intro w' H; have c0 := H.cells)
          | (refine wpList_store_bool rfl _ _ rfl rfl H rfl size1b (by simp) ?_; clear H c0; intro w' H; have c0 := H.cells))
        all_goals go_meet
        all_goals rw [← hT.out, ← hV.out]
        all_goals exact H
      · go_upto_region 3 with (fail)
        go_cut [] (fun wx => Own w wx [blk w.heap.size (.cells #[.int .i64 (t), .int .i64 (v + (absI (x - t / 8) - v / 4)), .bool true, .int .i64 (d), .int .i64 r, .int .i64 e] 24), blk (w.heap.size + 1) (.cells #[.int .i64 0, .int .i64 0, .bool false, .int .i64 0, .int .i64 0, .int .i64 0] 24)])
        case first =>
          refine wp_region_still_tail 9 (by kernel_rfl) (by kernel_rfl) ?_
          simp only [List.take_succ_cons, List.take_zero, List.drop_succ_cons, List.drop_zero]
          repeat still_step
          still_call (abs_any (x - t / 8) (by omega) _)
          repeat still_step
          refine wpStill_nil ?_
          change wpList _ _ _ _ _ wc.drew
          have HD := H.drew
          generalize wc.drew = wd at *
          have hab : 0 ≤ absI (x - t / 8) ∧ absI (x - t / 8) ≤ 64 := by unfold absI; omega
          go_wp2_with (refine wpList_store_int rfl _ _ rfl rfl HD rfl size1 (by simp) ?_; clear HD; intro w' HD)
          go_meet
          rw [IntWalk.i64_in (absI (x - t / 8) - v / 4) (by omega), IntWalk.i64_in (v + (absI (x - t / 8) - v / 4)) (by omega)] at HD
          exact HD
        case rest =>
          have H := hcut
          clear hcut
          have c0 := H.cells
          go_wp2_with (refine wpList_store_int rfl _ _ rfl rfl H rfl size1 (by simp) ?_; clear H c0; intro w' H; have c0 := H.cells)
          go_meet
          rw [← hT.out, ← hV.out]
          exact H
    case rest =>
      have H := hcut
      clear hcut c0
      have c0 := H.cells
      go_wp2_with (refine wpList_store_int rfl _ _ rfl rfl H rfl size1 (by simp) ?_; clear H c0; intro w' H; have c0 := H.cells)
      refine (grown_any ⟨T, V, true, 0, r, e⟩ hok.out _).mono ?_
      rintro e1 w2 ⟨_, rfl, rfl, h2⟩
      rw [hz.out]
      obtain ⟨z1, z2, z3, z4, z5, z6⟩ := z
      have H2 := (H.join h2).front 1 rfl
      clear H c0
      unfold Pc.val
      go_wp2_with (refine wpList_store_agg rfl _ _ rfl rfl H2 rfl size6 (by simp) (by simp [Value.oneCell']) rfl ?_; clear H2; intro w' H2; have c0 := H2.cells)
      refine ⟨rfl, Pc.val ⟨z1, z2, z3, z4, z5, z6⟩, ?_, _, rfl, ?_, H2.bare⟩
      · simp [results, Try.results16, go_sem, Pc.val, c0]
      · rw [hcame.out]; rfl
end Go.Proofs.Ytjjjaeocdaimpaa
