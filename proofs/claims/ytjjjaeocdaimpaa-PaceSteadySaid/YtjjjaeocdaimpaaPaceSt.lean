/-
  PaceSteady: what comes back behind the same ticks, and the walk.
-/
import Derived.Test.YtjjjaeocdaimpaaPacePl
import Derived.Test.YtjjjaeocdaimpaaBit
namespace Go.Proofs.Ytjjjaeocdaimpaa
open Go.RowKit

/-! ### the plain law -/
def Pc.cames (p : Pc) (t : Int) : Nat → Pc
  | 0 => p
  | m + 1 => (p.cames t m).came t
theorem Pc.cames_ok {p : Pc} (h : p.Ok) (t : Int) : ∀ m, (p.cames t m).Ok
  | 0 => h
  | m + 1 => Pc.came_ok (Pc.cames_ok h t m) t
theorem Pc.cames_known (p : Pc) (t : Int) : ∀ m, 0 < m → (p.cames t m).known = true
  | 0, h => by omega
  | m + 1, _ => by unfold cames came took grown; split <;> simp_all
def tripF (t x : Int) : Int := x + (t - x / 8)
def tripN (t x : Int) : Nat → Int
  | 0 => x
  | m + 1 => tripF t (tripN t x m)
def varyN : Nat → Int
  | 0 => 256
  | m + 1 => varyN m - varyN m / 4
theorem tripF_mono {t x y : Int} (h : x ≤ y) : tripF t x ≤ tripF t y := by unfold tripF; omega
theorem Pc.came_known (p : Pc) (t : Int) : (p.came t).known = true := by unfold came took grown; split <;> simp_all
theorem Pc.came_doubled (p : Pc) (t : Int) : (p.came t).doubled = 0 := by unfold came took grown; split <;> rfl
theorem Pc.came_trip {p : Pc} (h : p.known = true) {t : Int} (ht : 0 ≤ t) (ht2 : t ≤ 63) : (p.came t).trip = tripF t p.trip := by
  unfold came took grown
  rw [if_pos h]
  simp only [tripF, tick]
  omega
theorem Pc.came_vary {p : Pc} (h : p.known = true) {t : Int} (ht : 0 ≤ t) (ht2 : t ≤ 63) : (p.came t).vary = p.vary + (absI (t - p.trip / 8) - p.vary / 4) := by
  unfold came took grown
  rw [if_pos h]
  simp only [tick, absI]
  omega
def near : Bool := (List.range 64).all fun t => decide (8 * (t : Int) ≤ tripN t 0 60) && decide (tripN t 512 60 ≤ 8 * (t : Int) + 7)
theorem near_true : near = true := by decide +kernel
theorem near_of {t : Int} (ht : 0 ≤ t) (ht2 : t ≤ 63) : 8 * t ≤ tripN t 0 60 ∧ tripN t 512 60 ≤ 8 * t + 7 := by
  have h := near_true
  unfold near at h
  rw [List.all_eq_true] at h
  have := h t.toNat (List.mem_range.2 (by omega))
  rw [Int.toNat_of_nonneg ht] at this
  simpa using this
theorem varyN_20 : varyN 20 ≤ 3 := by decide +kernel
theorem Pc.cames_trip {p : Pc} (h : p.Ok) {t : Int} (ht : 0 ≤ t) (ht2 : t ≤ 63) : ∀ m, tripN t 0 m ≤ (p.cames t (m + 1)).trip ∧ (p.cames t (m + 1)).trip ≤ tripN t 512 m
  | 0 => ⟨(Pc.cames_ok h t 1).t0, (Pc.cames_ok h t 1).t1⟩
  | m + 1 => by
    obtain ⟨h1, h2⟩ := Pc.cames_trip h ht ht2 m
    have e : (p.cames t (m + 1 + 1)).trip = tripF t (p.cames t (m + 1)).trip := Pc.came_trip (Pc.came_known _ _) ht ht2
    rw [e]
    exact ⟨tripF_mono h1, tripF_mono h2⟩
theorem Pc.cames_near {p : Pc} (h : p.Ok) {t : Int} (ht : 0 ≤ t) (ht2 : t ≤ 63) : ∀ m, 8 * t ≤ (p.cames t (61 + m)).trip ∧ (p.cames t (61 + m)).trip ≤ 8 * t + 7
  | 0 => by
    have h1 := Pc.cames_trip h ht ht2 60
    have h2 := near_of ht ht2
    exact ⟨Int.le_trans h2.1 h1.1, Int.le_trans h1.2 h2.2⟩
  | m + 1 => by
    have h1 := Pc.cames_near h ht ht2 m
    have e : (p.cames t (61 + (m + 1))).trip = tripF t (p.cames t (61 + m)).trip := Pc.came_trip (Pc.cames_known p t (61 + m) (by omega)) ht ht2
    rw [e]
    unfold tripF
    omega
theorem Pc.cames_vary {p : Pc} (h : p.Ok) {t : Int} (ht : 0 ≤ t) (ht2 : t ≤ 63) : ∀ m, (p.cames t (61 + m)).vary ≤ varyN m
  | 0 => (Pc.cames_ok h t 61).v1
  | m + 1 => by
    have h1 := Pc.cames_vary h ht ht2 m
    have h2 := Pc.cames_near h ht ht2 m
    have e : (p.cames t (61 + (m + 1))).vary = _ := Pc.came_vary (p := p.cames t (61 + m)) (Pc.cames_known p t (61 + m) (by omega)) ht ht2
    rw [e]
    have h3 := (Pc.cames_ok h t (61 + m)).v0
    unfold varyN absI
    omega
theorem varyN_le : ∀ m, varyN (20 + m) ≤ 3
  | 0 => varyN_20
  | m + 1 => by
    have := varyN_le m
    rw [show 20 + (m + 1) = (20 + m) + 1 by omega]
    unfold varyN
    omega
theorem Pc.steady {p : Pc} (h : p.Ok) {t : Int} (ht : 0 ≤ t) (ht2 : t ≤ 63) {m : Nat} (hm : 120 ≤ m) : ((p.cames t m).wait ≥ t ∨ (p.cames t m).wait = 64) ∧ (p.cames t m).wait ≤ t + 8 := by
  obtain ⟨k, rfl⟩ : ∃ k, m = 61 + (20 + k) := ⟨m - 81, by omega⟩
  have h1 := Pc.cames_near h ht ht2 (20 + k)
  have h2 := Int.le_trans (Pc.cames_vary h ht ht2 (20 + k)) (varyN_le k)
  have h3 := (Pc.cames_ok h t (61 + (20 + k))).v0
  have h4 : (p.cames t (61 + (20 + k))).known = true := Pc.cames_known _ _ _ (by omega)
  have h5 : (p.cames t (61 + (20 + k))).doubled = 0 := by rw [show 61 + (20 + k) = (80 + k) + 1 by omega]; exact Pc.came_doubled _ _
  have e : (p.cames t (61 + (20 + k))).wait = min (max ((p.cames t (61 + (20 + k))).trip / 8 + max (p.cames t (61 + (20 + k))).vary 1) 2) 64 := by
    unfold wait
    rw [if_pos h4, h5]
    simp
  rw [e]
  omega

/-! ### the walk -/
set_option maxRecDepth 100000 in
set_option maxHeartbeats 2000000 in
theorem steady_any (v : Value) (n : Nat) (ds : List (Int × Int)) (ticks more : Int) (ht : -9223372036854775808 ≤ ticks ∧ ticks ≤ 9223372036854775807) (hm : -9223372036854775808 ≤ more ∧ more ≤ 9223372036854775807) (w : World) (hr : Rd w 2 v n (dcells ds)) :
    Calls Try.prog 5 #[v, .int .i64 ticks, .int .i64 more] w (Ret fun v w' => v = .bool true ∧ Own w w' []) := by
  have hlen : Hid (n = ds.length) := by have := hr.len; rw [dcells_length] at this; exact Lib.hid (by omega)
  have HR := Lib.hid hr
  obtain ⟨a0, cap, rfl, hn1, hn2⟩ := hr.shape
  clear hr
  go_enter Try.func5, Try.ntmps5
  go_wp2_with fail
  have H := (Own.start w).alloc (.cells #[.int .i64 0, .int .i64 0, .bool false, .int .i64 0, .int .i64 0, .int .i64 0] 24)
  go_loopw [8] (fun i wr => ∃ k : Nat, k ≤ n ∧ k ≤ 100 ∧ i = .int .i64 k ∧ ∃ p : Pc, p.Ok ∧ Own w wr [blk w.heap.size (.cells #[.int .i64 p.trip, .int .i64 p.vary, .bool p.known, .int .i64 p.doubled, .int .i64 p.rate, .int .i64 p.edge] 24)])
    (fun i _ => 100 - (intOf i).toNat)
  case atStart => exact ⟨0, Nat.zero_le _, Nat.zero_le _, rfl, Pc.zero, Pc.zero_ok, H⟩
  case round =>
    clear H
    obtain ⟨k, hk, hk3, rfl, p, hok, H⟩ := hrel
    by_cases hlt : k < n ∧ k < 100
    · obtain ⟨hlt, hl3⟩ := hlt
      obtain ⟨b, o, e, hc⟩ := deed_at HR.out (show k < ds.length by have := hlen.out; omega)
      cases e
      obtain ⟨x, hx⟩ : ∃ x, Hid ((ds.getD k (0, 0)).1 = x) := ⟨_, rfl⟩
      obtain ⟨y, hy⟩ : ∃ x, Hid ((ds.getD k (0, 0)).2 = x) := ⟨_, rfl⟩
      rw [hx.out, hy.out] at hc
      have HD0 := Lib.hid hc
      clear hc
      obtain ⟨p1, p2, p3, p4, p5, p6⟩ := p
      simp only at H
      have hokq := Pc.does_ok hok x y
      obtain ⟨q, hq⟩ : ∃ q, Hid (Pc.does ⟨p1, p2, p3, p4, p5, p6⟩ x y = q) := ⟨_, rfl⟩
      rw [hq.out] at hokq
      obtain ⟨q1, q2, q3, q4, q5, q6⟩ := q
      go_upto_region 5 with (fail)
      refine wp_region_calm (fun w1 => Own w w1 [blk w.heap.size (.cells #[.int .i64 p1, .int .i64 p2, .bool p3, .int .i64 p4, .int .i64 p5, .int .i64 p6] 24)]) 6 (by kernel_rfl) (by kernel_rfl) H.drew ?_
      simp only [List.take_succ_cons, List.take_zero, List.drop_succ_cons, List.drop_zero]
      refine calm_value (v := ?_) (by decide) rfl (fun σ w1 hS => ?_) ?_; rotate_left
      · have c0 := hS.cells
        go_simp
        rfl
      simp only [Act.put, List.setIfInBounds_toArray, List.set_cons_zero, List.set_cons_succ]
      refine calm_value (v := ?_) (by decide) rfl (fun σ w1 hS => ?_) ?_; rotate_left
      · rfl
      simp only [Act.put, List.setIfInBounds_toArray, List.set_cons_zero, List.set_cons_succ]
      refine calm_value (v := ?_) (by decide) rfl (fun σ w1 hS => ?_) ?_; rotate_left
      · rfl
      simp only [Act.put, List.setIfInBounds_toArray, List.set_cons_zero, List.set_cons_succ]
      refine calm_value (v := ?_) (by decide) rfl (fun σ w1 hS => ?_) ?_; rotate_left
      · go_simp
        rfl
      simp only [Act.put, List.setIfInBounds_toArray, List.set_cons_zero, List.set_cons_succ]
      refine calm_value (v := ?_) (by decide) rfl (fun σ w1 hS => ?_) ?_; rotate_left
      · obtain ⟨c1, c2⟩ := HD0.out w1 _ hS
        go_simp
        rfl
      simp only [Act.put, List.setIfInBounds_toArray, List.set_cons_zero, List.set_cons_succ]
      refine calm_call (v := .agg #[.int .i64 q1, .int .i64 q2, .bool q3, .int .i64 q4, .int .i64 q5, .int .i64 q6]) (by decide) rfl (fun w1 => (by go_simp; exact ⟨rfl, rfl⟩)) (fun σ w1 hS => ?_) ?_
      · refine (does_any ⟨p1, p2, p3, p4, p5, p6⟩ hok x y w1).mono ?_
        rintro e w2 ⟨v, rfl, rfl, h2⟩
        rw [hq.out]
        exact ⟨rfl, hS.join h2⟩
      simp only [Act.put, List.setIfInBounds_toArray, List.set_cons_zero, List.set_cons_succ]
      refine calm_nil ?_
      intro wd HD
      go_wp2_with (refine wpList_store_agg rfl _ _ rfl rfl HD rfl size6 (by simp) (by simp [Value.oneCell']) rfl ?_; clear HD; intro w' HD)
      go_round
      case rel => exact ⟨k + 1, by omega, by omega, by go_num, ⟨q1, q2, q3, q4, q5, q6⟩, hokq, HD⟩
      case measure => simp [intOf]; omega
    · obtain ⟨t, htt⟩ : ∃ t, bits BinOp.and IntKind.i64 ticks 63 = t := ⟨_, rfl⟩
      have ht0 : 0 ≤ t ∧ t ≤ 63 := by rw [← htt, i64_and63]; omega
      obtain ⟨ht0, ht1⟩ := ht0
      obtain ⟨m, hmm, hm63⟩ : ∃ m : Nat, bits BinOp.and IntKind.i64 more 63 = (m : Int) ∧ m ≤ 63 := ⟨(more % 64).toNat, by rw [i64_and63]; omega, by omega⟩
      go_wp2_with fail
      all_goals
        go_loopw [9] (fun i wx => ∃ j : Nat, j ≤ 120 + m ∧ i = .int .i64 j ∧ ∃ q : Pc, Hid (q = p.cames t j) ∧ q.Ok ∧ Own w wx [blk w.heap.size (.cells #[.int .i64 q.trip, .int .i64 q.vary, .bool q.known, .int .i64 q.doubled, .int .i64 q.rate, .int .i64 q.edge] 24)]) (fun i _ => 120 + m - (intOf i).toNat)
        case atStart => exact ⟨0, Nat.zero_le _, rfl, p, Lib.hid rfl, hok, H⟩
        case round =>
          clear H
          obtain ⟨j, hj, rfl, q, hq, hokq, H⟩ := hrel
          have hstep := Lib.hid (fun h120 : 120 ≤ j => Pc.steady (p := p) hok ht0 ht1 h120)
          have hwb := Pc.wait_bd hokq
          have hokc := Pc.came_ok hokq t
          have hqc : Hid (q.came t = p.cames t (j + 1)) := by rw [hq.out]; exact rfl
          by_cases hlj : j < 120 + m
          · obtain ⟨c, hcc⟩ : ∃ c, Hid (q.came t = c) := ⟨_, rfl⟩
            rw [hcc.out] at hokc hqc
            obtain ⟨c1, c2, c3, c4, c5, c6⟩ := c
            obtain ⟨q1, q2, q3, q4, q5, q6⟩ := q
            simp only at H
            have c0 := H.cells
            go_wp2_with fail
            refine (came_any ⟨q1, q2, q3, q4, q5, q6⟩ hokq t _).mono ?_
            rintro e w2 ⟨_, rfl, rfl, h2⟩
            rw [hcc.out]
            replace H := H.join h2
            clear h2 c0
            unfold Pc.val
            go_wp2_with (refine wpList_store_agg rfl _ _ rfl rfl H rfl size6 (by simp) (by simp [Value.oneCell']) rfl ?_; clear H; intro w' H)
            go_roundw
            case rel => exact ⟨j + 1, by omega, by go_num, ⟨c1, c2, c3, c4, c5, c6⟩, hqc, hokc, H⟩
            case measure => simp [intOf]; omega
          · obtain rfl : j = 120 + m := by omega
            have hfin := hstep.out (by omega)
            rw [← hq.out] at hfin
            obtain ⟨z, hz⟩ : ∃ z, Hid (q.wait = z) := ⟨_, rfl⟩
            rw [hz.out] at hfin hwb
            obtain ⟨hf1, hf2⟩ := hfin
            obtain ⟨hwb1, hwb2⟩ := hwb
            clear hstep
            obtain ⟨q1, q2, q3, q4, q5, q6⟩ := q
            simp only at H
            have c0 := H.cells
            replace hf1 : t ≤ z := by omega
            go_wp2_with fail
            refine (wait_any ⟨q1, q2, q3, q4, q5, q6⟩ hokq _).mono ?_
            rintro e w2 ⟨_, rfl, rfl, h2⟩
            rw [hz.out]
            replace H := H.join h2
            clear h2 c0
            go_wp2_with fail
            refine (awake_any _).mono ?_
            rintro e w3 ⟨_, rfl, rfl, h3⟩
            go_wp2
            go_ret
            exact ⟨_, rfl, rfl, (H.join h3).bare⟩
end Go.Proofs.Ytjjjaeocdaimpaa
