/-
  Bits: the walk of BitsBack.
-/
import Derived.Test.YtbooacglmeoceaaBitsBkR
import Derived.Test.YtbooacglmeoceaaBitsRR
import Derived.Test.YtbooacglmeoceaaSt2
namespace Go.Proofs.Ytbooacglmeoceaa
open Go.RowKit

theorem Dd.norm_ok {d : Dd} (h : d.Ok) : d.norm.Ok := ⟨h.k, h.v, by have := h.n; unfold I64 Dd.norm at *; simp only; split <;> omega, h.s⟩

set_option maxRecDepth 100000 in
set_option maxHeartbeats 2000000 in
theorem back_any (v : Value) (n0 : Nat) (ds : List Dd) (hds : ∀ d ∈ ds, d.Okay) (w : World) (hr : Rd w 4 v n0 (ddcells ds)) :
    Calls Try.prog 5 #[v] w (Ret fun v w' => v = .bool true ∧ Own w w' []) := by
  go_enter Try.func5, Try.ntmps5
  go_upto_region 2 with (fail)
  have H := (Own.start w).newWtr
  obtain ⟨ga, hga⟩ : ∃ g, w.heap.size = g := ⟨_, rfl⟩
  rw [hga] at H
  simp only [hga]
  generalize World.alloc w _ = w1 at *
  clear hga
  go_wp2_with fail
  refine (some_any v n0 ds hds w1 (hr.old H)).mono ?_
  rintro e w2 ⟨v2, rfl, H2⟩
  have hes := some60_ok hds
  have hel : (some60 ds).length ≤ 60 := by simp [some60]; omega
  generalize some60 ds = es at *
  clear hr hds
  replace H := H.join H2
  clear H2
  obtain ⟨n, hn⟩ : ∃ n, Hid (es.length = n) := ⟨_, rfl⟩
  rw [hn.out] at H hel
  obtain ⟨a0, cap, rfl, hn1, hn2⟩ := H.rd.shape
  go_wp2_with fail
  go_loopw [4] (fun i wr => ∃ k : Nat, k ≤ n ∧ i = .int .i64 k ∧ (bitsAfter ((es.take k).map Dd.norm)).length ≤ k * 900 ∧ Own w wr [slc 34 4 (.slice a0 n cap) n (ddcells ((es.take k).map Dd.norm ++ es.drop k)), Wtr ga (bitsAfter ((es.take k).map Dd.norm))]) (fun i _ => n - (intOf i).toNat)
  case atStart => exact ⟨0, Nat.zero_le _, rfl, by simp [bitsAfter], by simpa [bitsAfter] using H⟩
  case round =>
    clear H
    obtain ⟨k, hk, rfl, hbl, H⟩ := hrel
    by_cases hlt : k < n
    · obtain ⟨d, hd⟩ : ∃ d, Hid (es[k]? = some d) := ⟨es[k]'(by rw [hn.out]; exact hlt), Lib.hid (List.getElem?_eq_getElem _)⟩
      have hdok := hes d (List.mem_of_getElem? hd.out)
      obtain ⟨pre, hpre⟩ : ∃ pre, Hid ((es.take k).map Dd.norm = pre) := ⟨_, rfl⟩
      have hpl : Hid (pre.length = k) := Lib.hid (by rw [← hpre.out]; simp; rw [hn.out]; omega)
      have hdrop : es.drop k = d :: es.drop (k + 1) := by
        have hkl := (List.getElem?_eq_some_iff.1 hd.out).1
        rw [List.drop_eq_getElem_cons hkl, (List.getElem?_eq_some_iff.1 hd.out).2]
      have hnx : Hid ((es.take (k + 1)).map Dd.norm = pre ++ [d.norm]) := Lib.hid (by rw [List.take_add_one, hd.out, ← hpre.out]; simp)
      rw [hpre.out] at H hbl
      rw [hdrop] at H
      clear hdrop
      obtain ⟨post, hpost⟩ : ∃ post, Hid (es.drop (k + 1) = post) := ⟨_, rfl⟩
      rw [hpost.out] at H
      obtain ⟨g0, _, e, _⟩ := H.at (by rw [ddcells_length, List.length_append, List.length_cons]; omega)
      cases e
      have hget : Hid ((pre ++ d :: post)[k]? = some d) := Lib.hid (by rw [List.getElem?_append_right (by rw [hpl.out]; exact Nat.le_refl _), hpl.out]; simp)
      obtain ⟨_, _, _, e, c0, c1, c2, c3⟩ := dd_at H.rd hget.out
      cases e
      obtain ⟨dk, dv, dn, s⟩ := d
      simp only [Nat.zero_add] at c0 c1 c2 c3
      obtain ⟨m, hm⟩ : ∃ m, bits BinOp.and .i64 dn 63 = m := ⟨_, rfl⟩
      have hm2 : Hid (m = dn % 64) := Lib.hid (by rw [← hm, i64_and63])
      have hmb : 0 ≤ m ∧ m ≤ 63 := by rw [hm2.out]; omega
      obtain ⟨hm0, hm1⟩ := hmb
      go_upto_region 7 with (refine wpList_store_slcN rfl _ _ rfl rfl H (.int .i64 m) rfl (by kernel_rfl) (by omega) rfl ?_; clear H c0 c1 c2 c3; intro w3 H)
      obtain ⟨m2, hm3⟩ : ∃ m2, Hid ((if m > 62 then 62 else m) = m2) := ⟨_, rfl⟩
      have hnorm : Hid ((Dd.mk dk dv dn s).norm = ⟨dk, dv, m2, s⟩) := Lib.hid (by unfold Dd.norm; rw [← hm3.out, hm2.out])
      have hset : ∀ (x y : Int), (ddcells (pre ++ ⟨dk, dv, x, s⟩ :: post)).set (k * 4 + 2) (.int .i64 y) = ddcells (pre ++ ⟨dk, dv, y, s⟩ :: post) := fun x y => by
        have := ddcells_set pre post ⟨dk, dv, x, s⟩ y
        rw [hpl.out] at this
        exact this
      rw [hset] at H
      have hget2 : ∀ x : Int, (pre ++ Dd.mk dk dv x s :: post)[k]? = some ⟨dk, dv, x, s⟩ := fun x => by
        rw [List.getElem?_append_right (by rw [hpl.out]; exact Nat.le_refl _), hpl.out]; simp
      have HSET := Lib.hid hset
      have HGET := Lib.hid hget2
      clear hset hget2
      obtain ⟨_, _, _, e, c0, c1, c2, c3⟩ := dd_at H.rd (HGET.out m)
      cases e
      simp only [Nat.zero_add] at c0 c1 c2 c3
      simp only [Act.put]
      go_upto_if 41 with (fail)
      go_cut [] (fun wx => Own w wx (slc 34 4 (.slice (some ⟨g0, 0, none⟩) n cap) n (ddcells (pre ++ ⟨dk, dv, m2, s⟩ :: post)) :: [Wtr ga (bitsAfter pre)]))
      case first =>
        by_cases h63 : m > 62
        · have e62 : (62 : Int) = m2 := by rw [← hm3.out, if_pos h63]
          go_wp2_with (refine wpList_store_slcN rfl _ _ rfl rfl H (.int .i64 62) rfl (by kernel_rfl) (by omega) rfl ?_; clear H c0 c1 c2 c3; intro w4 H)
          go_meet
          rw [HSET.out, e62] at H
          exact H
        · have e62 : m = m2 := by rw [← hm3.out, if_neg h63]
          have h62 : m ≤ 62 := by omega
          go_wp2
          go_meet
          rw [e62] at H
          exact H
      case rest =>
        clear H c0 c1 c2 c3
        have H := hcut
        clear hcut
        obtain ⟨_, _, _, e, c0, c1, c2, c3⟩ := dd_at H.rd (HGET.out m2)
        cases e
        simp only [Nat.zero_add] at c0 c1 c2 c3
        have hdok2 : (Dd.mk dk dv m2 s).Ok := by rw [← hnorm.out]; exact Dd.norm_ok hdok
        have hplen := Dd.put_length ⟨dk, dv, m2, s⟩ hdok2 (bitsAfter pre)
        go_wp2_with fail
        refine (does_any ⟨dk, dv, m2, s⟩ hdok2 H.swap (by omega)).mono ?_
        rintro e w5 ⟨_, rfl, H5⟩
        clear H c0 c1 c2 c3
        go_wp2
        go_round
        case rel => exact ⟨k + 1, by omega, by go_num, by rw [hnx.out, bitsAfter_snoc, hnorm.out]; omega, by
          rw [hnx.out, bitsAfter_snoc, hnorm.out, hpost.out, List.append_assoc]
          exact H5.swap⟩
        case measure => simp [intOf]; omega
    · obtain rfl : k = n := by omega
      have hall : (es.take k).map Dd.norm ++ es.drop k = es.map Dd.norm := by rw [List.take_of_length_le (by rw [hn.out]; exact Nat.le_refl _), List.drop_eq_nil_of_le (by rw [hn.out]; exact Nat.le_refl _), List.append_nil]
      have hall2 : (es.take k).map Dd.norm = es.map Dd.norm := by rw [List.take_of_length_le (by rw [hn.out]; exact Nat.le_refl _)]
      rw [hall, hall2] at H
      rw [hall2] at hbl
      clear hall hall2
      have hfs : ∀ d ∈ es.map Dd.norm, d.Ok ∧ 0 ≤ d.n ∧ d.n ≤ 62 := by
        intro d hd
        obtain ⟨x, hx, rfl⟩ := List.mem_map.1 hd
        refine ⟨Dd.norm_ok (hes x hx), ?_⟩
        unfold Dd.norm
        simp only
        split <;> omega
      have hfl : Hid ((es.map Dd.norm).length = k) := Lib.hid (by rw [List.length_map, hn.out])
      generalize es.map Dd.norm = fs at *
      clear hes hn
      obtain ⟨B, hB⟩ : ∃ B, Hid (bitsAfter fs = B) := ⟨_, rfl⟩
      rw [hB.out] at H hbl
      have hts : Hid ((textOf B).size = nbytes B.length) := Lib.hid (textOf_size B)
      obtain ⟨t, ht⟩ : ∃ t, Hid (textOf B = t) := ⟨_, rfl⟩
      go_wp2_with fail
      refine (bytes_any H.swap).mono ?_
      rintro e _ ⟨rfl, rfl⟩
      rw [ht.out]
      go_wp2_with fail
      refine (new_any t H).mono ?_
      rintro e w3 ⟨_, rfl, gr, rfl, H3⟩
      go_wp2_with fail
      clear H
      go_loopw [6] (fun i wr => ∃ j : Nat, j ≤ k ∧ i = .int .i64 j ∧ Own w wr [Rdr gr t (bitsAfter (fs.take j)).length, slc 34 4 (.slice a0 k cap) k (ddcells fs), Wtr ga B]) (fun i _ => k - (intOf i).toNat)
      case atStart => exact ⟨0, Nat.zero_le _, rfl, by simpa [bitsAfter] using H3⟩
      case round =>
        clear H3
        obtain ⟨j, hj, rfl, H⟩ := hrel
        by_cases hlt : j < k
        · obtain ⟨d, hd⟩ : ∃ d, Hid (fs[j]? = some d) := ⟨fs[j]'(by rw [hfl.out]; exact hlt), Lib.hid (List.getElem?_eq_getElem _)⟩
          obtain ⟨hdok, hdn0, hdn1⟩ := hfs d (List.mem_of_getElem? hd.out)
          obtain ⟨r, hr1, hr2⟩ := at_deed fs j d hd.out
          rw [hB.out, ht.out] at hr1
          obtain ⟨p, hp⟩ : ∃ p, Hid ((bitsAfter (fs.take j)).length = p) := ⟨_, rfl⟩
          have hnext : Hid ((bitsAfter (fs.take (j + 1))).length = p + (d.adds p).length) := Lib.hid (by rw [hr2, List.length_append, hp.out])
          have hdrop : Hid ((textBits t).drop p = d.adds p ++ r) := Lib.hid (by rw [hr1, ← hp.out, List.drop_left])
          have htot : Hid (8 * t.size = p + ((d.adds p).length + r.length)) := Lib.hid (by rw [← textBits_length, hr1]; simp [hp.out])
          have hp8 : p ≤ 100000 := by have := htot.out; have := hts.out; rw [ht.out] at this; unfold nbytes at this; omega
          rw [hp.out] at H
          clear hr1 hr2
          obtain ⟨g0, _, e, _⟩ := (H.front 1 rfl).at (by rw [ddcells_length, hfl.out]; omega)
          cases e
          obtain ⟨_, _, _, e, c0, c1, c2, c3⟩ := dd_at (H.front 1 rfl).rd hd.out
          cases e
          obtain ⟨dk, dv, dn, s⟩ := d
          simp only [Nat.zero_add] at c0 c1 c2 c3
          go_upto_region 15 with (fail)
          replace H := H.alloc (.cells #[.int .i64 dk, .int .i64 dv, .int .i64 dn, .string s] 34)
          obtain ⟨gx, hgx⟩ : ∃ g, wr.heap.size = g := ⟨_, rfl⟩
          rw [hgx] at H ⊢
          generalize World.alloc wr _ = wx at *
          clear hgx c0 c1 c2 c3
          obtain ⟨N, rfl⟩ : ∃ N : Nat, dn = N := ⟨dn.toNat, by simp only at hdn0; omega⟩
          have hN62 : N ≤ 62 := by simp only at hdn1; omega
          have hcut : cut (N : Int) = N := by unfold cut; omega
          have c0 := H.cells
          by_cases hq : dk = 0 ∨ dk = 1
          · have hadd : (Dd.mk dk dv N s).adds p = bitsOf dv N := by unfold Dd.adds; rw [if_pos hq, hcut]
            rw [hadd] at hdrop htot hnext
            have hval : valOf (((textBits t).drop p).take N) = dv % 2 ^ N := by rw [hdrop.out, List.take_append_of_le_length (by rw [bitsOf_length]; exact Nat.le_refl _), List.take_of_length_le (by rw [bitsOf_length]; exact Nat.le_refl _), valOf_bitsOf]
            have hle : p + N ≤ 8 * t.size := by have := htot.out; rw [bitsOf_length] at this; omega
            have hts2 : t.size ≤ 1000000 := by have := hts.out; rw [ht.out] at this; unfold nbytes at this; omega
            rcases hq with rfl | rfl
            all_goals
              go_wp2_with fail
              refine (take_yes N (H.front 1 rfl) (by omega) hN62 hle).mono ?_
              rintro e w4 ⟨_, rfl, rfl, H4⟩
              rw [hval]
              obtain ⟨z, hz⟩ : ∃ z, Hid (dv % 2 ^ N = z) := ⟨_, rfl⟩
              rw [hz.out]
              go_upto_region 22 with (fail)
              refine wp_region_calm (fun w1 => Own w w1 (Rdr gr t (p + N) :: [blk gx (.cells #[.int .i64 _, .int .i64 dv, .int .i64 N, .string s] 34), slc 34 4 (.slice (some ⟨g0, 0, none⟩) k cap) k (ddcells fs), Wtr ga B])) 13 (by kernel_rfl) (by kernel_rfl) H4.drew ?_
              simp only [List.take_succ_cons, List.take_zero, List.drop_succ_cons, List.drop_zero]
              repeat
                refine calm_value (v := ?_) (by decide) rfl (fun σ w1 hS => ?_) ?_; rotate_left
                · have c0 := (hS.front 1 rfl).cells
                  first | (go_simp; rfl) | rfl
                simp only [Act.put, List.setIfInBounds_toArray, List.set_cons_zero, List.set_cons_succ]
              refine calm_nil ?_
              intro wd HD
              clear H4
              have hmask := i64_and_low dv hN62
              rw [hz.out] at hmask
              go_wp2
              go_round
              case rel => exact ⟨j + 1, by omega, by go_num, by
                have h1 := hnext.out
                rw [bitsOf_length] at h1
                rw [h1]
                exact (HD.front 1 rfl).drop⟩
              case measure => simp [intOf]; omega
          · have e0 : (dk == 0) = false := by simp; omega
            have e1 : (dk == 1) = false := by simp; omega
            have hts2 : t.size ≤ 1000000 := by have := hts.out; rw [ht.out] at this; unfold nbytes at this; omega
            by_cases hq2 : dk = 2
            · subst hq2
              clear e0 e1
              have hadd : (Dd.mk 2 dv N s).adds p = (bitsOf dv N).reverse := by unfold Dd.adds; rw [if_neg (by simp), if_pos rfl, hcut]
              rw [hadd] at hdrop htot hnext
              have hle : p + N ≤ 8 * t.size := by have := htot.out; rw [List.length_reverse, bitsOf_length] at this; omega
              go_wp2_with fail
              go_loopw [10] (fun x wy => ∃ m : Nat, m ≤ N ∧ x = .int .i64 ((m : Int) - 1) ∧ Own w wy [Rdr gr t (p + (N - m)), blk gx (.cells #[.int .i64 2, .int .i64 dv, .int .i64 N, .string s] 34), slc 34 4 (.slice (some ⟨g0, 0, none⟩) k cap) k (ddcells fs), Wtr ga B]) (fun x _ => (intOf x + 1).toNat)
              case atStart => exact ⟨N, Nat.le_refl _, rfl, by
                rw [show p + (N - N) = p by omega]
                exact H.front 1 rfl⟩
              case round =>
                clear H c0
                obtain ⟨m, hm, rfl, H⟩ := hrel
                by_cases hm0 : m = 0
                · subst hm0
                  go_wp2
                  go_round
                  case rel => exact ⟨j + 1, by omega, by go_num, by
                    have h1 := hnext.out
                    rw [List.length_reverse, bitsOf_length] at h1
                    rw [h1]
                    exact (H.front 1 rfl).drop⟩
                  case measure => simp [intOf]; omega
                · obtain ⟨m, rfl⟩ : ∃ x, m = x + 1 := ⟨m - 1, by omega⟩
                  clear hm0
                  obtain ⟨hbit, hpos⟩ := rev_bit dv N m hm (textBits t) r p hdrop.out
                  have HB := Lib.hid hbit
                  have HP := Lib.hid hpos
                  clear hbit hpos
                  obtain ⟨q, hq⟩ : ∃ q, Hid (p + (N - (m + 1)) = q) := ⟨_, rfl⟩
                  rw [hq.out] at H
                  rw [show ((m + 1 : Nat) : Int) - 1 = (m : Int) by omega]
                  go_wp2_with fail
                  refine (take_yes 1 H (by omega) (by omega) (by have := hq.out; omega)).mono ?_
                  rintro e w4 ⟨_, rfl, rfl, H4⟩
                  have hval : Hid (valOf (((textBits t).drop q).take 1) = dv / 2 ^ m % 2) := Lib.hid (by rw [← hq.out, HB.out, ← bi_bitOf]; simp [valOf])
                  obtain ⟨z, hz⟩ : ∃ z, Hid (dv / 2 ^ m % 2 = z) := ⟨_, rfl⟩
                  have hbz : bits .and .i64 (dv / 2 ^ m) 1 = z := by rw [i64_and1, hz.out]
                  rw [hval.out, hz.out]
                  clear H
                  have c0 := (H4.front 1 rfl).cells
                  go_wp2
                  go_round
                  case rel => exact ⟨m, by omega, by go_num, by
                    have h1 := HP.out
                    have h2 := hq.out
                    rw [h2] at h1
                    rw [← h1]
                    exact H4⟩
                  case measure => simp [intOf]
            · have e2 : (dk == 2) = false := by simp; omega
              by_cases hq3 : dk = 3
              · subst hq3
                clear e0 e1 e2
                have hadd : (Dd.mk 3 dv N s).adds p = List.replicate (padN p) false := by unfold Dd.adds; rw [if_neg (by simp), if_neg (by simp), if_pos rfl]
                rw [hadd] at hnext
                go_wp2_with fail
                refine (rdalign_any (H.front 1 rfl) (by omega)).mono ?_
                rintro e w4 ⟨_, rfl, H4⟩
                go_wp2
                go_round
                case rel => exact ⟨j + 1, by omega, by go_num, by
                  have h1 := hnext.out
                  rw [List.length_replicate, show p + padN p = 8 * nbytes p by unfold padN nbytes; omega] at h1
                  rw [h1]
                  exact (H4.front 1 rfl).drop⟩
                case measure => simp [intOf]; omega
              · have e3 : (dk == 3) = false := by simp; omega
                have hadd : (Dd.mk dk dv N s).adds p = List.replicate (padN p) false ++ textBits s := by unfold Dd.adds; rw [if_neg (by rintro (h | h) <;> simp only at h <;> omega), if_neg hq2, if_neg hq3]
                rw [hadd] at hdrop htot hnext
                obtain ⟨htl, hte⟩ := text_back (by have := htot.out; omega) hdrop.out
                have HTE := Lib.hid hte
                clear hte
                have hss : s.size ≤ 1000000 := by omega
                go_wp2_with fail
                refine (rdtext_yes s.size (H.front 1 rfl) (by omega) htl).mono ?_
                rintro e w4 ⟨_, rfl, rfl, H4⟩
                rw [HTE.out]
                have c0 := (H4.front 1 rfl).cells
                go_wp2
                go_round
                case rel => exact ⟨j + 1, by omega, by go_num, by
                  have h1 := hnext.out
                  rw [List.length_append, List.length_replicate, textBits_length, show p + (padN p + 8 * s.size) = 8 * (nbytes p + s.size) by unfold padN nbytes; omega] at h1
                  rw [h1]
                  exact (H4.front 1 rfl).drop⟩
                case measure => simp [intOf]; omega
        · obtain rfl : j = k := by omega
          have hall : (bitsAfter (fs.take j)).length = B.length := by rw [List.take_of_length_le (by rw [hfl.out]; exact Nat.le_refl _), hB.out]
          rw [hall] at H
          obtain ⟨l1, l2, l3⟩ := last_zero B
          rw [ht.out] at l3
          have hts3 : t.size = nbytes B.length := by rw [← ht.out]; exact hts.out
          rw [← hts3] at l1 l2 l3
          have hts2 : t.size ≤ 1000000 := by rw [hts3]; unfold nbytes; omega
          clear hall hts3
          go_wp2_with fail
          refine (left_any H (by omega) (by omega)).mono ?_
          rintro e w4 ⟨rfl, H4⟩
          obtain ⟨lf, hlf⟩ : ∃ lf : Nat, Hid (8 * t.size - B.length = lf) := ⟨_, rfl⟩
          rw [hlf.out] at l1 l3
          have L3 := Lib.hid l3
          clear l3 H
          rw [show (8 * (t.size : Int) - (B.length : Int)) = (lf : Int) by have := hlf.out; omega]
          go_wp2_with fail
          refine (take_yes lf H4 (by omega) (by omega) (by have := hlf.out; omega)).mono ?_
          rintro e w5 ⟨_, rfl, rfl, H5⟩
          rw [L3.out]
          go_wp2_with fail
          refine (awake_any _).mono ?_
          rintro e w6 ⟨_, rfl, rfl, H6⟩
          go_wp2
          go_ret
          exact ⟨_, rfl, rfl, (H5.join H6).bare⟩
end Go.Proofs.Ytbooacglmeoceaa
