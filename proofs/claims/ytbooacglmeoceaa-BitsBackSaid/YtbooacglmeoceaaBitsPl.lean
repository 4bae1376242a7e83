/-
  Bits: the walk of BitsPuts.
-/
import Derived.Test.YtbooacglmeoceaaBitsL2
namespace Go.Proofs.Ytbooacglmeoceaa
open Go.RowKit

set_option maxRecDepth 100000 in
set_option maxHeartbeats 2000000 in
theorem puts_any (v : Value) (n0 : Nat) (ds : List Dd) (hds : ∀ d ∈ ds, d.Okay) (w : World) (hr : Rd w 4 v n0 (ddcells ds)) :
    Calls Try.prog 3 #[v] w (Ret fun v w' => v = .bool true ∧ Own w w' []) := by
  go_enter Try.func3, Try.ntmps3
  go_upto_region 3 with (fail)
  have H := ((Own.start w).newWtr).newRWtr
  rw [alloc_heap_size'] at H
  obtain ⟨ga, hga⟩ : ∃ g, w.heap.size = g := ⟨_, rfl⟩
  obtain ⟨gb, hgb⟩ : ∃ g, ga + 1 = g := ⟨_, rfl⟩
  rw [hga, hgb] at H
  simp only [hga, hgb]
  generalize World.alloc (World.alloc w _) _ = w1 at *
  clear hga hgb
  go_wp2_with fail
  refine (some_any v n0 ds hds w1 (hr.old H)).mono ?_
  rintro e w2 ⟨v2, rfl, H2⟩
  have hes := some60_ok hds
  have hel : (some60 ds).length ≤ 60 := by simp [some60]; omega
  generalize some60 ds = es at *
  clear hr hds
  replace H := (H.join H2).front 1 rfl
  clear H2
  obtain ⟨n, hn⟩ : ∃ n, Hid (es.length = n) := ⟨_, rfl⟩
  rw [hn.out] at H hel
  obtain ⟨a0, cap, rfl, hn1, hn2⟩ := (H.front 1 rfl).rd.shape
  go_wp2_with fail
  go_loopw [5] (fun i wr => ∃ k : Nat, ∃ bs : List Bool, k ≤ n ∧ i = .int .i64 k ∧ bs.length ≤ k * 900 ∧ Own w wr [RWtr gb bs, slc 34 4 (.slice a0 n cap) n (ddcells es), Wtr ga bs]) (fun i _ => n - (intOf i).toNat)
  case atStart => exact ⟨0, [], Nat.zero_le _, rfl, by simp, H⟩
  case round =>
    clear H
    obtain ⟨k, bs0, hk, rfl, hbl, H⟩ := hrel
    by_cases hlt : k < n
    · obtain ⟨d, hd⟩ : ∃ d, Hid (es[k]? = some d) := ⟨es[k]'(by rw [hn.out]; exact hlt), Lib.hid (List.getElem?_eq_getElem _)⟩
      have hdok := hes d (List.mem_of_getElem? hd.out)
      have hlen : 0 < (ddcells es).length := by rw [ddcells_length, hn.out]; omega
      obtain ⟨g0, _, e, _⟩ := (H.front 1 rfl).at hlen
      cases e
      obtain ⟨b, o, _, e, c0, c1, c2, c3⟩ := dd_at (H.front 1 rfl).rd hd.out
      cases e
      obtain ⟨dk, dv, dn, s⟩ := d
      simp only [Nat.zero_add] at c0 c1 c2 c3
      have hpl := Dd.put_length ⟨dk, dv, dn, s⟩ hdok bs0
      go_wp2_with fail
      refine (does_any ⟨dk, dv, dn, s⟩ hdok (H.front 2 rfl) (by omega)).mono ?_
      rintro e w3 ⟨_, rfl, H3⟩
      clear H c0 c1 c2 c3
      obtain ⟨bs, hbs⟩ : ∃ bs, Hid (Dd.put ⟨dk, dv, dn, s⟩ bs0 = bs) := ⟨_, rfl⟩
      rw [hbs.out] at H3 hpl
      replace H3 : Own w w3 [RWtr gb bs0, Wtr ga bs, slc 34 4 (.slice (some ⟨g0, 0, none⟩) n cap) n (ddcells es)] := H3.swap
      obtain ⟨_, _, _, e, c0, c1, c2, c3⟩ := dd_at (H3.front 2 rfl).rd hd.out
      cases e
      simp only [Nat.zero_add] at c0 c1 c2 c3
      go_wp2_with fail
      refine (did_any ⟨dk, dv, dn, s⟩ hdok H3 (by omega)).mono ?_
      rintro e w4 ⟨_, rfl, H4⟩
      clear H3 c0 c1 c2 c3
      rw [hbs.out] at H4
      obtain ⟨a, c, hc1, hc2, H⟩ := H4.rwtr
      clear H4
      obtain ⟨N, hN⟩ : ∃ N, Hid (bs.length = N) := ⟨_, rfl⟩
      rw [hN.out] at H hc1 hpl
      obtain ⟨t, ht⟩ : ∃ t, Hid (textOf bs = t) := ⟨_, rfl⟩
      go_upto_region 9 with (fail)
      refine wp_region_calm (fun w1 => Own w w1 (blk gb (.cells #[.slice a N c] 29) :: slc 3 1 (.slice a N c) N (intBits bs) :: [Wtr ga bs, slc 34 4 (.slice (some ⟨g0, 0, none⟩) n cap) n (ddcells es)])) 13 (by kernel_rfl) (by kernel_rfl) H.drew ?_
      simp only [List.take_succ_cons, List.take_zero, List.drop_succ_cons, List.drop_zero]
      refine calm_call (v := .int .i64 N) (by decide) rfl (fun w1 => (by go_simp; exact ⟨rfl, rfl⟩)) (fun σ w1 hS => ?_) ?_
      · refine (len_any (hS.front 2 rfl)).mono ?_
        rintro e _ ⟨rfl, rfl⟩
        rw [hN.out]
        exact ⟨rfl, hS⟩
      simp only [Act.put, List.setIfInBounds_toArray, List.set_cons_zero, List.set_cons_succ]
      refine calm_value (v := ?_) (by decide) rfl (fun σ w1 hS => ?_) ?_; rotate_left
      · rfl
      simp only [Act.put, List.setIfInBounds_toArray, List.set_cons_zero, List.set_cons_succ]
      refine calm_value (v := ?_) (by decide) rfl (fun σ w1 hS => ?_) ?_; rotate_left
      · have c0 := hS.cells
        go_simp
        rfl
      simp only [Act.put, List.setIfInBounds_toArray, List.set_cons_zero, List.set_cons_succ]
      refine calm_value (v := ?_) (by decide) rfl (fun σ w1 hS => ?_) ?_; rotate_left
      · have c0 := hS.cells
        go_simp
        rfl
      simp only [Act.put, List.setIfInBounds_toArray, List.set_cons_zero, List.set_cons_succ]
      refine calm_value (v := ?_) (by decide) rfl (fun σ w1 hS => ?_) ?_; rotate_left
      · have c0 := hS.cells
        go_simp
        rfl
      simp only [Act.put, List.setIfInBounds_toArray, List.set_cons_zero, List.set_cons_succ]
      refine calm_value (v := ?_) (by decide) rfl (fun σ w1 hS => ?_) ?_; rotate_left
      · have c0 := hS.cells
        go_simp
        rfl
      simp only [Act.put, List.setIfInBounds_toArray, List.set_cons_zero, List.set_cons_succ]
      refine calm_value (v := ?_) (by decide) rfl (fun σ w1 hS => ?_) ?_; rotate_left
      · have c0 := hS.cells
        go_simp
        rfl
      simp only [Act.put, List.setIfInBounds_toArray, List.set_cons_zero, List.set_cons_succ]
      refine calm_value (v := ?_) (by decide) rfl (fun σ w1 hS => ?_) ?_; rotate_left
      · have c0 := hS.cells
        go_simp
        rfl
      simp only [Act.put, List.setIfInBounds_toArray, List.set_cons_zero, List.set_cons_succ]
      refine calm_call (v := .string t) (by decide) rfl (fun w1 => (by go_simp; exact ⟨rfl, rfl⟩)) (fun σ w1 hS => ?_) ?_
      · refine (bytes_any (hS.front 2 rfl)).mono ?_
        rintro e _ ⟨rfl, rfl⟩
        rw [ht.out]
        exact ⟨rfl, hS⟩
      simp only [Act.put, List.setIfInBounds_toArray, List.set_cons_zero, List.set_cons_succ]
      refine calm_value (v := ?_) (by decide) rfl (fun σ w1 hS => ?_) ?_; rotate_left
      · have c0 := hS.cells
        go_simp
        rfl
      simp only [Act.put, List.setIfInBounds_toArray, List.set_cons_zero, List.set_cons_succ]
      refine calm_call (v := .string t) (by decide) rfl (fun w1 => (by go_simp; exact ⟨rfl, rfl⟩)) (fun σ w1 hS => ?_) ?_
      · refine (rbytes_gen hS hN (by omega) hc1 hc2).mono ?_
        rintro e w2 ⟨_, rfl, rfl, h2⟩
        rw [ht.out]
        exact ⟨rfl, h2⟩
      simp only [Act.put, List.setIfInBounds_toArray, List.set_cons_zero, List.set_cons_succ]
      refine calm_value (v := ?_) (by decide) rfl (fun σ w1 hS => ?_) ?_; rotate_left
      · have c0 := hS.cells
        go_simp
        rfl
      simp only [Act.put, List.setIfInBounds_toArray, List.set_cons_zero, List.set_cons_succ]
      refine calm_value (v := ?_) (by decide) rfl (fun σ w1 hS => ?_) ?_; rotate_left
      · have c0 := hS.cells
        go_simp
        rfl
      simp only [Act.put, List.setIfInBounds_toArray, List.set_cons_zero, List.set_cons_succ]
      refine calm_nil ?_
      intro wd HD
      clear H
      go_wp2
      go_round
      case rel => exact ⟨k + 1, bs, by omega, by go_num, by rw [hN.out]; omega, ((HD.unrwtr hN.out.symm rfl).front 2 rfl).front 1 rfl⟩
      case measure => simp [intOf]; omega
    · obtain rfl : k = n := by omega
      have hbl2 : bs0.length ≤ 54000 := by omega
      go_wp2_with fail
      refine (bytes_any (H.front 2 rfl)).mono ?_
      rintro e _ ⟨rfl, rfl⟩
      go_wp2_with fail
      refine (rbytes_any H (by omega)).mono ?_
      rintro e w3 ⟨_, rfl, rfl, H3⟩
      go_wp2_with fail
      refine (awake_any _).mono ?_
      rintro e w4 ⟨_, rfl, rfl, H4⟩
      go_wp2
      go_ret
      exact ⟨_, rfl, rfl, (H3.join H4).bare⟩
end Go.Proofs.Ytbooacglmeoceaa
