/-
  Pace: a deed done; what is read of the deeds; the laws.
-/
import Derived.Test.YtjjjaeocdaimpaaPaceR
import Derived.Test.YtjjjaeocdaimpaaReg
namespace Go.Proofs.Ytjjjaeocdaimpaa
open Go.RowKit

set_option maxHeartbeats 800000 in
theorem does_any (p : Pc) (h : p.Ok) (k n : Int) (w : World) : Calls Try.prog 8 #[p.val, .agg #[.int .i64 k, .int .i64 n]] w (Ret fun v w' => v = (p.does k n).val ∧ Own w w' []) := by
  have hC := Lib.hid (came_any p h n)
  have hL := Lib.hid (lost_any p h)
  have hG := Lib.hid (gap_any p h)
  obtain ⟨pv, hpv⟩ : ∃ g, Hid (p.val = g) := ⟨_, rfl⟩
  obtain ⟨a1, a2, a3, a4, a5, a6, ha⟩ : ∃ (a1 a2 : Int) (a3 : Bool) (a4 a5 a6 : Int), pv = .agg #[.int .i64 a1, .int .i64 a2, .bool a3, .int .i64 a4, .int .i64 a5, .int .i64 a6] := ⟨_, _, _, _, _, _, hpv.out.symm⟩
  rw [hpv.out] at hC hL hG ⊢
  subst ha
  obtain ⟨res, hres⟩ : ∃ r, Hid (p.does k n = r) := ⟨_, rfl⟩
  rw [hres.out]
  by_cases hk : k = 0 ∨ k = 1 ∨ k = 2 ∨ k = 3
  · have hr : Hid (p.came n = res) := by rw [← hres.out]; exact (if_pos hk).symm
    rw [hr.out] at hC
    obtain ⟨b1, b2, b3, b4, b5, b6⟩ := res
    unfold Pc.val at hC ⊢
    rcases hk with rfl | rfl | rfl | rfl
    all_goals
      go_enter Try.func8, Try.ntmps8
      go_wp2_with fail
      refine (hC.out _).mono ?_
      rintro e1 w1 ⟨_, rfl, rfl, h1⟩
      have H := ((Own.start w).alloc3 _ _ _).join h1
      go_wp2_with (refine wpList_store_agg rfl _ _ rfl rfl H rfl size6 (by simp) (by simp [Value.oneCell']) rfl ?_; clear H; intro w' H; have c0 := H.cells)
      refine ⟨rfl, _, ?_, _, rfl, rfl, H.bare⟩
      simp [results, Try.results8, go_sem, c0]
  · have hk1 : ¬ k = 0 := fun e => hk (.inl e)
    have hk2 : ¬ k = 1 := fun e => hk (.inr (.inl e))
    have hk3 : ¬ k = 2 := fun e => hk (.inr (.inr (.inl e)))
    have hk4 : ¬ k = 3 := fun e => hk (.inr (.inr (.inr e)))
    by_cases hk5 : k = 4
    · have hr : Hid (p.lost = res) := by rw [← hres.out, Pc.does, if_neg hk, if_pos hk5]; exact rfl
      rw [hr.out] at hL
      clear hk
      subst hk5
      obtain ⟨b1, b2, b3, b4, b5, b6⟩ := res
      unfold Pc.val at hL ⊢
      go_enter Try.func8, Try.ntmps8
      go_wp2_with fail
      refine (hL.out _).mono ?_
      rintro e1 w1 ⟨_, rfl, rfl, h1⟩
      have H := ((Own.start w).alloc3 _ _ _).join h1
      go_wp2_with (refine wpList_store_agg rfl _ _ rfl rfl H rfl size6 (by simp) (by simp [Value.oneCell']) rfl ?_; clear H; intro w' H; have c0 := H.cells)
      refine ⟨rfl, _, ?_, _, rfl, rfl, H.bare⟩
      simp [results, Try.results8, go_sem, c0]
    · have hr : Hid (p.gap = res) := by rw [← hres.out, Pc.does, if_neg hk, if_neg hk5]; exact rfl
      rw [hr.out] at hG
      clear hk
      obtain ⟨b1, b2, b3, b4, b5, b6⟩ := res
      unfold Pc.val at hG ⊢
      go_enter Try.func8, Try.ntmps8
      go_wp2_with fail
      refine (hG.out _).mono ?_
      rintro e1 w1 ⟨_, rfl, rfl, h1⟩
      have H := ((Own.start w).alloc3 _ _ _).join h1
      go_wp2_with (refine wpList_store_agg rfl _ _ rfl rfl H rfl size6 (by simp) (by simp [Value.oneCell']) rfl ?_; clear H; intro w' H; have c0 := H.cells)
      refine ⟨rfl, _, ?_, _, rfl, rfl, H.bare⟩
      simp [results, Try.results8, go_sem, c0]

def dcells (ds : List (Int × Int)) : List Value := ds.flatMap fun d => [.int .i64 d.1, .int .i64 d.2]
theorem dcells_length (ds : List (Int × Int)) : (dcells ds).length = 2 * ds.length := by
  induction ds with
  | nil => rfl
  | cons d ds ih => simp only [dcells, List.flatMap_cons, List.length_append, List.length_cons, List.length_nil] at *; omega
theorem dcells_get : ∀ (ds : List (Int × Int)) (j : Nat), j < ds.length → (dcells ds)[j * 2]? = some (.int .i64 (ds.getD j (0, 0)).1) ∧ (dcells ds)[j * 2 + 1]? = some (.int .i64 (ds.getD j (0, 0)).2)
  | [], j, h => by simp at h
  | d :: ds, 0, _ => ⟨rfl, rfl⟩
  | d :: ds, j + 1, h => by
    have := dcells_get ds j (by simpa using h)
    have e : dcells (d :: ds) = .int .i64 d.1 :: .int .i64 d.2 :: dcells ds := rfl
    rw [e, show (j + 1) * 2 = j * 2 + 1 + 1 by omega, show j * 2 + 1 + 1 + 1 = (j * 2 + 1) + 1 + 1 by omega]
    simpa using this

theorem deed_at {w0 : World} {a0 : Option Addr} {n cap : Nat} {ds : List (Int × Int)} (h : Rd w0 2 (.slice a0 n cap) n (dcells ds)) {k : Nat} (hk : k < ds.length) :
    ∃ b o, a0 = some ⟨b, o, none⟩ ∧ ∀ w ps, Own w0 w ps → w.cell? ⟨b, o + k * 2, none⟩ = some (.int .i64 (ds.getD k (0, 0)).1) ∧ w.cell? ⟨b, o + k * 2 + 1, none⟩ = some (.int .i64 (ds.getD k (0, 0)).2) := by
  obtain ⟨b, o, c, e, _, _, hc⟩ := h.at (by rw [dcells_length]; omega)
  cases e
  refine ⟨b, o, rfl, fun w ps H => ?_⟩
  have g0 := hc _ _ (dcells_get ds k hk).1
  have g1 := hc _ _ (dcells_get ds k hk).2
  rw [← Nat.add_assoc] at g1
  have hb : b < w0.heap.size := World.block_lt_of_cell? w0 _ g0
  exact ⟨(H.oldCell hb).trans g0, (H.oldCell hb).trans g1⟩

/-- The pace behind the first so many deeds. -/
def Pc.after (ds : List (Int × Int)) (k : Nat) : Pc := (ds.take k).foldl (fun p d => p.does d.1 d.2) Pc.zero
theorem Pc.after_succ (ds : List (Int × Int)) (k : Nat) (h : k < ds.length) : Pc.after ds (k + 1) = (Pc.after ds k).does (ds.getD k (0, 0)).1 (ds.getD k (0, 0)).2 := by
  unfold after
  rw [List.take_add_one, List.getElem?_eq_getElem h, List.foldl_append]
  simp [List.getD, h]
theorem Pc.after_ok (ds : List (Int × Int)) (k : Nat) : (Pc.after ds k).Ok := by
  unfold after
  generalize ds.take k = l
  have : ∀ (l : List (Int × Int)) (p : Pc), p.Ok → (l.foldl (fun p d => p.does d.1 d.2) p).Ok := by
    intro l
    induction l with
    | nil => exact fun p h => h
    | cons d l ih => exact fun p h => ih _ (Pc.does_ok h _ _)
  exact this l _ Pc.zero_ok

theorem pcA : Pc.came Pc.zero 4 = ⟨32, 8, true, 0, 32, 0⟩ := rfl
theorem pcB : Pc.came ⟨32, 8, true, 0, 32, 0⟩ 4 = ⟨32, 6, true, 0, 48, 0⟩ := rfl
theorem pcL : Pc.lost ⟨32, 6, true, 0, 48, 0⟩ = ⟨32, 6, true, 1, 16, 32⟩ := rfl
theorem okA : Pc.Ok ⟨32, 8, true, 0, 32, 0⟩ := pcA ▸ Pc.came_ok Pc.zero_ok 4
theorem okB : Pc.Ok ⟨32, 6, true, 0, 48, 0⟩ := pcB ▸ Pc.came_ok okA 4
theorem okL : Pc.Ok ⟨32, 6, true, 1, 16, 32⟩ := pcL ▸ Pc.lost_ok okB

set_option maxHeartbeats 1000000 in
theorem awake_any (w : World) : Calls Try.prog 15 #[] w (Ret fun v w' => v = .bool true ∧ Own w w' []) := by
  go_enter Try.func15, Try.ntmps15
  go_wp2_with fail
  refine (came_any Pc.zero Pc.zero_ok 4 _).mono ?_
  rintro e w1 ⟨_, rfl, rfl, h1⟩
  rw [pcA]
  have H := ((Own.start w).alloc (.cells #[.int .i64 0, .int .i64 0, .bool false, .int .i64 0, .int .i64 0, .int .i64 0] 24)).join h1
  clear h1
  unfold Pc.val
  go_wp2_with fail
  refine (came_any ⟨32, 8, true, 0, 32, 0⟩ okA 4 _).mono ?_
  rintro e w2 ⟨_, rfl, rfl, h2⟩
  rw [pcB]
  have H := (H.alloc _).join h2
  clear h2
  unfold Pc.val
  go_upto_region 4 with (fail)
  replace H := H.alloc (.cells #[.int .i64 32, .int .i64 6, .bool true, .int .i64 0, .int .i64 48, .int .i64 0] 24)
  generalize World.alloc w2 _ = w2' at *
  have cA := (H.front 1 rfl).cells
  go_wp2_with fail
  refine (wait_any ⟨32, 8, true, 0, 32, 0⟩ okA _).mono ?_
  rintro e w3 ⟨_, rfl, rfl, h3⟩
  rw [show Pc.wait ⟨32, 8, true, 0, 32, 0⟩ = 12 from rfl]
  replace H := H.join h3
  clear h3 cA
  have cA := (H.front 1 rfl).cells
  have cB := H.cells
  have cZ := (H.front 2 rfl).cells
  go_wp2_with fail
  refine (wait_any ⟨32, 6, true, 0, 48, 0⟩ okB _).mono ?_
  rintro e w4 ⟨_, rfl, rfl, h4⟩
  rw [show Pc.wait ⟨32, 6, true, 0, 48, 0⟩ = 10 from rfl]
  replace H := H.join h4
  clear h4 cA cB cZ
  have cA := (H.front 1 rfl).cells
  have cB := H.cells
  have cZ := (H.front 2 rfl).cells
  go_wp2_with fail
  refine (lost_any ⟨32, 6, true, 0, 48, 0⟩ okB _).mono ?_
  rintro e w4 ⟨_, rfl, rfl, h4⟩
  rw [pcL]
  unfold Pc.val
  replace H := H.join h4
  clear h4 cA cB cZ
  have cA := (H.front 1 rfl).cells
  have cB := H.cells
  have cZ := (H.front 2 rfl).cells
  go_wp2_with fail
  refine (wait_any ⟨32, 6, true, 1, 16, 32⟩ okL _).mono ?_
  rintro e w4 ⟨_, rfl, rfl, h4⟩
  rw [show Pc.wait ⟨32, 6, true, 1, 16, 32⟩ = 20 from rfl]
  replace H := H.join h4
  clear h4 cA cB cZ
  have cA := (H.front 1 rfl).cells
  have cB := H.cells
  have cZ := (H.front 2 rfl).cells
  go_wp2_with fail
  refine (rate_any Pc.zero Pc.zero_ok _).mono ?_
  rintro e w4 ⟨_, rfl, rfl, h4⟩
  rw [show Pc.rateOf Pc.zero = 1 from rfl]
  replace H := H.join h4
  clear h4 cA cB cZ
  have cA := (H.front 1 rfl).cells
  have cB := H.cells
  have cZ := (H.front 2 rfl).cells
  go_wp2_with fail
  refine (rate_any ⟨32, 8, true, 0, 32, 0⟩ okA _).mono ?_
  rintro e w4 ⟨_, rfl, rfl, h4⟩
  rw [show Pc.rateOf ⟨32, 8, true, 0, 32, 0⟩ = 2 from rfl]
  replace H := H.join h4
  clear h4 cA cB cZ
  have cA := (H.front 1 rfl).cells
  have cB := H.cells
  have cZ := (H.front 2 rfl).cells
  go_wp2
  go_ret
  exact ⟨_, rfl, rfl, H.bare⟩

set_option maxRecDepth 100000 in
set_option maxHeartbeats 1000000 in
theorem bounds_any (v : Value) (n : Nat) (ds : List (Int × Int)) (w : World) (hr : Rd w 2 v n (dcells ds)) :
    Calls Try.prog 4 #[v] w (Ret fun v w' => v = .bool true ∧ Own w w' []) := by
  have hlen : Hid (n = ds.length) := by have := hr.len; rw [dcells_length] at this; exact Lib.hid (by omega)
  have HR := Lib.hid hr
  obtain ⟨a0, cap, rfl, hn1, hn2⟩ := hr.shape
  clear hr
  go_enter Try.func4, Try.ntmps4
  go_wp2_with fail
  have H := (Own.start w).alloc (.cells #[.int .i64 0, .int .i64 0, .bool false, .int .i64 0, .int .i64 0, .int .i64 0] 24)
  go_loopw [4] (fun i wr => ∃ k : Nat, k ≤ n ∧ k ≤ 300 ∧ i = .int .i64 k ∧ ∃ p : Pc, Hid (p = Pc.after ds k) ∧ p.Ok ∧ Own w wr [blk w.heap.size (.cells #[.int .i64 p.trip, .int .i64 p.vary, .bool p.known, .int .i64 p.doubled, .int .i64 p.rate, .int .i64 p.edge] 24)])
    (fun i _ => 300 - (intOf i).toNat)
  case atStart => exact ⟨0, Nat.zero_le _, Nat.zero_le _, rfl, Pc.zero, Lib.hid rfl, Pc.zero_ok, H⟩
  case round =>
    clear H
    obtain ⟨k, hk, hk3, rfl, p, hp, hok, H⟩ := hrel
    by_cases hlt : k < n ∧ k < 300
    · obtain ⟨hlt, hl3⟩ := hlt
      obtain ⟨b, o, e, hc⟩ := deed_at HR.out (show k < ds.length by have := hlen.out; omega)
      cases e
      obtain ⟨x, hx⟩ : ∃ x, Hid ((ds.getD k (0, 0)).1 = x) := ⟨_, rfl⟩
      obtain ⟨y, hy⟩ : ∃ x, Hid ((ds.getD k (0, 0)).2 = x) := ⟨_, rfl⟩
      rw [hx.out, hy.out] at hc
      have HD := Lib.hid hc
      clear hc
      obtain ⟨p1, p2, p3, p4, p5, p6⟩ := p
      simp only at H
      have c0 := H.cells
      have hokq := Pc.does_ok hok x y
      have hwqb := Pc.wait_bd hokq
      have hrqb := Pc.rate_bd hokq
      have hlw : Hid (x = 4 → Pc.rateOf (Pc.does ⟨p1, p2, p3, p4, p5, p6⟩ x y) = 1 ∧ Pc.wait ⟨p1, p2, p3, p4, p5, p6⟩ ≤ Pc.wait (Pc.does ⟨p1, p2, p3, p4, p5, p6⟩ x y)) := Lib.hid (by
        rintro rfl
        rw [Pc.does_four]
        exact ⟨Pc.lost_rate _, Pc.lost_wait hok⟩)
      obtain ⟨q, hq⟩ : ∃ q, Hid (Pc.does ⟨p1, p2, p3, p4, p5, p6⟩ x y = q) := ⟨_, rfl⟩
      rw [hq.out] at hokq hwqb hrqb hlw
      obtain ⟨wq, hwq⟩ : ∃ z, Hid (q.wait = z) := ⟨_, rfl⟩
      obtain ⟨rq, hrq⟩ : ∃ z, Hid (q.rateOf = z) := ⟨_, rfl⟩
      obtain ⟨wp, hwp⟩ : ∃ z, Hid (Pc.wait ⟨p1, p2, p3, p4, p5, p6⟩ = z) := ⟨_, rfl⟩
      rw [hwq.out] at hwqb
      rw [hrq.out] at hrqb
      rw [hwq.out, hrq.out, hwp.out] at hlw
      obtain ⟨hwq1, hwq2⟩ := hwqb
      obtain ⟨hrq1, hrq2⟩ := hrqb
      obtain ⟨q1, q2, q3, q4, q5, q6⟩ := q
      have HD0 := HD
      clear HD
      go_upto_region 5 with (fail)
      go_cut [5] (fun s5 wx => ∃ g : Nat, s5 = .pointer (some ⟨g, 0, none⟩) ∧ Own w wx [blk g (.cells #[.int .i64 q1, .int .i64 q2, .bool q3, .int .i64 q4, .int .i64 q5, .int .i64 q6] 24), blk w.heap.size (.cells #[.int .i64 p1, .int .i64 p2, .bool p3, .int .i64 p4, .int .i64 p5, .int .i64 p6] 24)])
      case first =>
        refine wp_region_new (fun σ w1 => Own w w1 (newP (.cells #[.int .i64 0, .int .i64 0, .bool false, .int .i64 0, .int .i64 0, .int .i64 0] 24) (σ 6) ++ [blk w.heap.size (.cells #[.int .i64 p1, .int .i64 p2, .bool p3, .int .i64 p4, .int .i64 p5, .int .i64 p6] 24)])) 7 [6] (by kernel_rfl) (by kernel_rfl) H.drew ?_
        simp only [List.take_succ_cons, List.take_zero, List.drop_succ_cons, List.drop_zero]
        refine calm_value (v := ?_) (by decide) rfl (fun σ w1 hS => ?_) ?_; rotate_left
        · have c0 := hS.skip.cells
          go_simp
          rfl
        simp only [Act.put, List.setIfInBounds_toArray, List.set_cons_zero, List.set_cons_succ]
        refine calm_value (v := ?_) (by decide) rfl (fun σ w1 hS => ?_) ?_; rotate_left
        · rfl
        simp only [Act.put, List.setIfInBounds_toArray, List.set_cons_zero, List.set_cons_succ]
        refine calm_value (v := ?_) (by decide) rfl (fun σ w1 hS => ?_) ?_; rotate_left
        · rfl
        simp only [Act.put, List.setIfInBounds_toArray, List.set_cons_zero, List.set_cons_succ]
        refine calm_value (v := ?_) (by decide) rfl (fun σ w1 hS => ?_) ?_; rotate_left
        · go_simp
          rfl
        simp only [Act.put, List.setIfInBounds_toArray, List.set_cons_zero, List.set_cons_succ]
        refine calm_value (v := ?_) (by decide) rfl (fun σ w1 hS => ?_) ?_; rotate_left
        · obtain ⟨c1, c2⟩ := HD0.out w1 _ hS
          go_simp
          rfl
        simp only [Act.put, List.setIfInBounds_toArray, List.set_cons_zero, List.set_cons_succ]
        refine calm_call (v := .agg #[.int .i64 q1, .int .i64 q2, .bool q3, .int .i64 q4, .int .i64 q5, .int .i64 q6]) (by decide) rfl (fun w1 => (by go_simp; exact ⟨rfl, rfl⟩)) (fun σ w1 hS => ?_) ?_
        · refine (does_any ⟨p1, p2, p3, p4, p5, p6⟩ hok x y w1).mono ?_
          rintro e w2 ⟨v, rfl, rfl, h2⟩
          rw [hq.out]
          exact ⟨rfl, hS.join h2⟩
        simp only [Act.put, List.setIfInBounds_toArray, List.set_cons_zero, List.set_cons_succ]
        refine calm_alloc (by decide) (fun w1 => (by go_simp)) ?_
        refine calm_nil ?_
        intro σ wd hσ HD
        obtain ⟨vn, hvn⟩ := Option.isSome_iff_exists.1 (hσ 6 (by decide))
        rw [hvn] at HD
        obtain ⟨g, rfl, HN⟩ := HD.newp
        clear HD
        have HD := HN
        clear HN
        simp only [putNew, List.foldl_cons, List.foldl_nil, hvn]
        simp only [Act.put, List.setIfInBounds_toArray, List.set_cons_zero, List.set_cons_succ, List.getElem?_cons_succ, List.getElem?_cons_zero, Option.bind_some, Option.getD_some]
        go_wp2_with (refine wpList_store_agg rfl _ _ rfl rfl HD rfl size6 (by simp) (by simp [Value.oneCell']) rfl ?_; clear HD; intro w' HD)
        go_meet
        exact ⟨g, rfl, HD⟩
      case rest =>
        clear H c0
        obtain ⟨g, rfl, H⟩ := hcut
        have c0 := H.cells
        go_upto_region 8 with (first
          | (go_at_call 12; refine (wait_any ⟨q1, q2, q3, q4, q5, q6⟩ hokq _).mono ?_; rintro e w2 ⟨_, rfl, rfl, h2⟩; rw [hwq.out]; have H := H.join h2; have c0 := H.cells)
          | (go_at_call 14; refine (rate_any ⟨q1, q2, q3, q4, q5, q6⟩ hokq _).mono ?_; rintro e w2 ⟨_, rfl, rfl, h2⟩; rw [hrq.out]; have H := H.join h2; have c0 := H.cells))
        go_cut [57] (fun s57 wx => s57 = .bool false ∧ Own w wx [blk g (.cells #[.int .i64 q1, .int .i64 q2, .bool q3, .int .i64 q4, .int .i64 q5, .int .i64 q6] 24), blk w.heap.size (.cells #[.int .i64 p1, .int .i64 p2, .bool p3, .int .i64 p4, .int .i64 p5, .int .i64 p6] 24)])
        case first =>
          by_cases hx4 : x = 4
          · obtain ⟨hr1, hw1⟩ := hlw.out hx4
            subst hx4
            subst hr1
            have hnlt : decide (wq < wp) = false := by simp; omega
            refine wp_region_calm (fun w1 => Own w w1 [blk g (.cells #[.int .i64 q1, .int .i64 q2, .bool q3, .int .i64 q4, .int .i64 q5, .int .i64 q6] 24), blk w.heap.size (.cells #[.int .i64 p1, .int .i64 p2, .bool p3, .int .i64 p4, .int .i64 p5, .int .i64 p6] 24)]) 18 (by kernel_rfl) (by kernel_rfl) H.drew ?_
            simp only [List.take_succ_cons, List.take_zero, List.drop_succ_cons, List.drop_zero]
            refine calm_value (v := ?_) (by decide) rfl (fun σ w1 hS => ?_) ?_; rotate_left
            · rfl
            simp only [Act.put, List.setIfInBounds_toArray, List.set_cons_zero, List.set_cons_succ]
            refine calm_value (v := ?_) (by decide) rfl (fun σ w1 hS => ?_) ?_; rotate_left
            · rfl
            simp only [Act.put, List.setIfInBounds_toArray, List.set_cons_zero, List.set_cons_succ]
            refine calm_value (v := ?_) (by decide) rfl (fun σ w1 hS => ?_) ?_; rotate_left
            · go_simp
              rfl
            simp only [Act.put, List.setIfInBounds_toArray, List.set_cons_zero, List.set_cons_succ]
            refine calm_value (v := ?_) (by decide) rfl (fun σ w1 hS => ?_) ?_; rotate_left
            · go_simp
              rfl
            simp only [Act.put, List.setIfInBounds_toArray, List.set_cons_zero, List.set_cons_succ]
            refine calm_value (v := ?_) (by decide) rfl (fun σ w1 hS => ?_) ?_; rotate_left
            · obtain ⟨c1, c2⟩ := HD0.out w1 _ hS
              go_simp
              rfl
            simp only [Act.put, List.setIfInBounds_toArray, List.set_cons_zero, List.set_cons_succ]
            refine calm_value (v := ?_) (by decide) rfl (fun σ w1 hS => ?_) ?_; rotate_left
            · go_simp
              rfl
            simp only [Act.put, List.setIfInBounds_toArray, List.set_cons_zero, List.set_cons_succ]
            refine calm_value (v := ?_) (by decide) rfl (fun σ w1 hS => ?_) ?_; rotate_left
            · rfl
            simp only [Act.put, List.setIfInBounds_toArray, List.set_cons_zero, List.set_cons_succ]
            refine calm_value (v := ?_) (by decide) rfl (fun σ w1 hS => ?_) ?_; rotate_left
            · have c0 := hS.cells
              go_simp
              rfl
            simp only [Act.put, List.setIfInBounds_toArray, List.set_cons_zero, List.set_cons_succ]
            refine calm_call (v := .int .i64 1) (by decide) rfl (fun w1 => (by go_simp; exact ⟨rfl, rfl⟩)) (fun σ w1 hS => ?_) ?_
            · refine (rate_any ⟨q1, q2, q3, q4, q5, q6⟩ hokq w1).mono ?_
              rintro e w2 ⟨v, rfl, rfl, h2⟩
              rw [hrq.out]
              exact ⟨rfl, hS.join h2⟩
            simp only [Act.put, List.setIfInBounds_toArray, List.set_cons_zero, List.set_cons_succ]
            refine calm_value (v := ?_) (by decide) rfl (fun σ w1 hS => ?_) ?_; rotate_left
            · go_simp
              rfl
            simp only [Act.put, List.setIfInBounds_toArray, List.set_cons_zero, List.set_cons_succ]
            refine calm_value (v := ?_) (by decide) rfl (fun σ w1 hS => ?_) ?_; rotate_left
            · rfl
            simp only [Act.put, List.setIfInBounds_toArray, List.set_cons_zero, List.set_cons_succ]
            refine calm_value (v := ?_) (by decide) rfl (fun σ w1 hS => ?_) ?_; rotate_left
            · have c0 := hS.cells
              go_simp
              rfl
            simp only [Act.put, List.setIfInBounds_toArray, List.set_cons_zero, List.set_cons_succ]
            refine calm_call (v := .int .i64 wq) (by decide) rfl (fun w1 => (by go_simp; exact ⟨rfl, rfl⟩)) (fun σ w1 hS => ?_) ?_
            · refine (wait_any ⟨q1, q2, q3, q4, q5, q6⟩ hokq w1).mono ?_
              rintro e w2 ⟨v, rfl, rfl, h2⟩
              rw [hwq.out]
              exact ⟨rfl, hS.join h2⟩
            simp only [Act.put, List.setIfInBounds_toArray, List.set_cons_zero, List.set_cons_succ]
            refine calm_value (v := ?_) (by decide) rfl (fun σ w1 hS => ?_) ?_; rotate_left
            · have c0 := hS.swap.cells
              go_simp
              rfl
            simp only [Act.put, List.setIfInBounds_toArray, List.set_cons_zero, List.set_cons_succ]
            refine calm_call (v := .int .i64 wp) (by decide) rfl (fun w1 => (by go_simp; exact ⟨rfl, rfl⟩)) (fun σ w1 hS => ?_) ?_
            · refine (wait_any ⟨p1, p2, p3, p4, p5, p6⟩ hok w1).mono ?_
              rintro e w2 ⟨v, rfl, rfl, h2⟩
              rw [hwp.out]
              exact ⟨rfl, hS.join h2⟩
            simp only [Act.put, List.setIfInBounds_toArray, List.set_cons_zero, List.set_cons_succ]
            refine calm_value (v := ?_) (by decide) rfl (fun σ w1 hS => ?_) ?_; rotate_left
            · go_simp
              rfl
            simp only [Act.put, List.setIfInBounds_toArray, List.set_cons_zero, List.set_cons_succ]
            refine calm_value (v := ?_) (by decide) rfl (fun σ w1 hS => ?_) ?_; rotate_left
            · go_simp
              rfl
            simp only [Act.put, List.setIfInBounds_toArray, List.set_cons_zero, List.set_cons_succ]
            refine calm_value (v := ?_) (by decide) rfl (fun σ w1 hS => ?_) ?_; rotate_left
            · go_simp
              rfl
            simp only [Act.put, List.setIfInBounds_toArray, List.set_cons_zero, List.set_cons_succ]
            refine calm_nil ?_
            intro wd HD
            refine wpList_nil ?_
            go_wp2
            go_meet
            exact ⟨rfl, HD⟩
          · have hx5 : (x == 4) = false := by simp [hx4]
            clear hx4
            refine wp_region_calm (fun w1 => Own w w1 [blk g (.cells #[.int .i64 q1, .int .i64 q2, .bool q3, .int .i64 q4, .int .i64 q5, .int .i64 q6] 24), blk w.heap.size (.cells #[.int .i64 p1, .int .i64 p2, .bool p3, .int .i64 p4, .int .i64 p5, .int .i64 p6] 24)]) 18 (by kernel_rfl) (by kernel_rfl) H.drew ?_
            simp only [List.take_succ_cons, List.take_zero, List.drop_succ_cons, List.drop_zero]
            refine calm_value (v := ?_) (by decide) rfl (fun σ w1 hS => ?_) ?_; rotate_left
            · rfl
            simp only [Act.put, List.setIfInBounds_toArray, List.set_cons_zero, List.set_cons_succ]
            refine calm_value (v := ?_) (by decide) rfl (fun σ w1 hS => ?_) ?_; rotate_left
            · rfl
            simp only [Act.put, List.setIfInBounds_toArray, List.set_cons_zero, List.set_cons_succ]
            refine calm_value (v := ?_) (by decide) rfl (fun σ w1 hS => ?_) ?_; rotate_left
            · go_simp
              rfl
            simp only [Act.put, List.setIfInBounds_toArray, List.set_cons_zero, List.set_cons_succ]
            refine calm_value (v := ?_) (by decide) rfl (fun σ w1 hS => ?_) ?_; rotate_left
            · go_simp
              rfl
            simp only [Act.put, List.setIfInBounds_toArray, List.set_cons_zero, List.set_cons_succ]
            refine calm_value (v := ?_) (by decide) rfl (fun σ w1 hS => ?_) ?_; rotate_left
            · obtain ⟨c1, c2⟩ := HD0.out w1 _ hS
              go_simp
              rfl
            simp only [Act.put, List.setIfInBounds_toArray, List.set_cons_zero, List.set_cons_succ]
            refine calm_value (v := ?_) (by decide) rfl (fun σ w1 hS => ?_) ?_; rotate_left
            · go_simp
              rfl
            simp only [Act.put, List.setIfInBounds_toArray, List.set_cons_zero, List.set_cons_succ]
            refine calm_value (v := ?_) (by decide) rfl (fun σ w1 hS => ?_) ?_; rotate_left
            · rfl
            simp only [Act.put, List.setIfInBounds_toArray, List.set_cons_zero, List.set_cons_succ]
            refine calm_skip (by decide) rfl ?_
            simp only [Act.put, List.setIfInBounds_toArray, List.set_cons_zero, List.set_cons_succ]
            refine calm_skip (by decide) rfl ?_
            simp only [Act.put, List.setIfInBounds_toArray, List.set_cons_zero, List.set_cons_succ]
            refine calm_skip (by decide) rfl ?_
            simp only [Act.put, List.setIfInBounds_toArray, List.set_cons_zero, List.set_cons_succ]
            refine calm_skip (by decide) rfl ?_
            simp only [Act.put, List.setIfInBounds_toArray, List.set_cons_zero, List.set_cons_succ]
            refine calm_skip (by decide) rfl ?_
            simp only [Act.put, List.setIfInBounds_toArray, List.set_cons_zero, List.set_cons_succ]
            refine calm_skip (by decide) rfl ?_
            simp only [Act.put, List.setIfInBounds_toArray, List.set_cons_zero, List.set_cons_succ]
            refine calm_skip (by decide) rfl ?_
            simp only [Act.put, List.setIfInBounds_toArray, List.set_cons_zero, List.set_cons_succ]
            refine calm_skip (by decide) rfl ?_
            simp only [Act.put, List.setIfInBounds_toArray, List.set_cons_zero, List.set_cons_succ]
            refine calm_skip (by decide) rfl ?_
            simp only [Act.put, List.setIfInBounds_toArray, List.set_cons_zero, List.set_cons_succ]
            refine calm_skip (by decide) rfl ?_
            simp only [Act.put, List.setIfInBounds_toArray, List.set_cons_zero, List.set_cons_succ]
            refine calm_value (v := ?_) (by decide) rfl (fun σ w1 hS => ?_) ?_; rotate_left
            · go_simp
              rfl
            simp only [Act.put, List.setIfInBounds_toArray, List.set_cons_zero, List.set_cons_succ]
            refine calm_nil ?_
            intro wd HD
            refine wpList_nil ?_
            go_wp2
            go_meet
            exact ⟨rfl, HD⟩
        case rest =>
          clear H c0
          obtain ⟨rfl, H⟩ := hcut
          have c0 := H.cells
          go_wp2_with (refine wpList_store_agg rfl _ _ rfl rfl (H.front 1 rfl) rfl size6 (by simp) (by simp [Value.oneCell']) rfl ?_; clear H; intro w' H)
          go_round
          case rel =>
            refine ⟨k + 1, by omega, by omega, by go_num, ⟨q1, q2, q3, q4, q5, q6⟩, Lib.hid ?_, hokq, H.swap.drop⟩
            rw [Pc.after_succ ds k (by have := hlen.out; omega), hx.out, hy.out, ← hp.out, hq.out]
          case measure => simp [intOf]; omega
    · have hge : (k : Int) < n → ¬ (k : Int) < 300 := by omega
      go_wp2_with fail
      all_goals
        refine (awake_any _).mono ?_
        rintro e w2 ⟨_, rfl, rfl, h2⟩
        go_wp2
        go_ret
        exact ⟨_, rfl, rfl, (H.join h2).bare⟩
end Go.Proofs.Ytjjjaeocdaimpaa
