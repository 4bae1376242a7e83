/-
  lz: the walk of LzTokens.
-/
import Derived.Test.YteblnmealnmipaaLzM
import Derived.Test.YteblnmealnmipaaLzQ
namespace Go.Proofs.Yteblnmealnmipaa
open Go.RowKit

theorem byt_beq {x y : UInt8} {t : Bool} (h : decide (x = y) = t) : ((x.toNat : Int) == (y.toNat : Int)) = t := by
  rw [← h]
  by_cases hb : x = y
  · simp [hb]
  · have : x.toNat ≠ y.toNat := fun h => hb (UInt8.toNat_inj.1 h)
    simp [hb]
    omega

set_option maxRecDepth 100000 in
set_option maxHeartbeats 3200000 in
theorem tokens_any {w : World} (s0 : ByteArray) : Calls Try.prog 6 #[.string s0] w (Ret fun v w' => v = .bool true ∧ Own w w' []) := by
  have H := Own.start w
  go_enter Try.func6, Try.ntmps6
  go_wp2_with fail
  refine (cut_any s0 H).mono ?_
  rintro e w1 ⟨_, rfl, ⟨s, rfl, hs⟩, H1⟩
  clear H
  go_wp2_with fail
  refine (lzparse_any H1 (by omega)).mono ?_
  rintro e w2 ⟨v1, rfl, H⟩
  clear H1
  have hpl := parse_length s
  have hP : Hid (parse s = parseN s s.size 0) := Lib.hid rfl
  obtain ⟨l, hl⟩ : ∃ l, Hid (parse s = l) := ⟨_, rfl⟩
  rw [hl.out] at H hpl hP
  obtain ⟨N, hN⟩ : ∃ N, Hid (l.length = N) := ⟨_, rfl⟩
  rw [hN.out] at H hpl
  obtain ⟨a, c, rfl, hc1, hc2⟩ := H.rd.shape
  go_wp2_with fail
  go_loopw [4, 5] (fun s4 s5 wr => ∃ (k i f : Nat), s4 = .int .i64 i ∧ s5 = .int .i64 k ∧ k ≤ N ∧ i ≤ s.size ∧ s.size ≤ i + f ∧ Hid (l.drop k = parseN s f i) ∧ Own w wr [slc 36 3 (.slice a N c) N (rows tcell l)]) (fun _ s5 _ => N - (intOf s5).toNat)
  case atStart => exact ⟨0, 0, s.size, by simp, by simp, by omega, by omega, by omega, Lib.hid (by simpa using hP.out), H⟩
  case round =>
    clear H
    obtain ⟨k, i, f, rfl, rfl, hk, hi, hf, hdr, H⟩ := hrel
    by_cases hkN : k < N
    · have hkI : (k : Int) < (N : Int) := by omega
      obtain ⟨t, ht⟩ : ∃ t, l[k]? = some t := ⟨l[k]'(by rw [hN.out]; exact hkN), List.getElem?_eq_getElem _⟩
      have hdrop : l.drop k = t :: l.drop (k + 1) := by
        obtain ⟨hk', rfl⟩ := List.getElem?_eq_some_iff.1 ht
        exact List.drop_eq_getElem_cons hk'
      have hfi : i < s.size := by
        rcases Nat.lt_or_ge i s.size with h | h
        · exact h
        · have := hdr.out; rw [parseN_end h, hdrop] at this; simp at this
      obtain ⟨f, rfl⟩ : ∃ f', f = f' + 1 := ⟨f - 1, by omega⟩
      have hpn : parseN s (f + 1) i = tokAt s i :: parseN s f (i + stepAt s i) := by rw [parseN, if_pos hfi]
      have hcons := hdr.out
      rw [hdrop, hpn, List.cons.injEq] at hcons
      have htk := Lib.hid hcons.1
      have hnx := Lib.hid hcons.2
      clear hcons hpn hdrop hdr
      have hsl := stepAt_le hfi
      have hsp := stepAt_pos s i
      have hmay : Hid (may t i = true) := Lib.hid (by rw [htk.out]; exact tokAt_may)
      have hdist : t.dist ≤ 4096 := by rw [htk.out]; exact tokAt_dist
      have htl := Lib.hid (tokAt_len (s := s) (i := i))
      have hst : Hid (stepAt s i = if 3 ≤ (found s i).1 then (found s i).1 else 1) := Lib.hid rfl
      rw [← htk.out] at htl
      obtain ⟨m, hm⟩ : ∃ m, Hid (stepAt s i = m) := ⟨_, rfl⟩
      rw [hm.out] at htl hsl hsp hnx hst
      obtain ⟨b, o, c', he, hc1', hc2', hcell⟩ := H.rd.at (by rw [H.rd.len]; omega)
      cases he
      have HT := Lib.hid ht
      clear ht hcell htk
      obtain ⟨c1, c2, c3⟩ := tok_cells H.rd HT.out
      obtain ⟨x, y, z⟩ := t
      simp only at c1 c2 c3 hdist
      go_upto_region 8 with (refine wpList_store_agg rfl _ _ rfl rfl (H.alloc _) rfl (by kernel_rfl) (by simp) (by simp; exact ⟨rfl, rfl, rfl⟩) rfl ?_; clear H; intro w5 H)
      generalize wr.heap.size = cb at *
      have H : Own w w5 (blk cb (.cells #[.int .i64 x, .int .i64 y, .int .i64 z] 36) :: [slc 36 3 (.slice (some ⟨b, o, none⟩) N c) N (rows tcell l)]) := H
      clear c1 c2 c3
      have c0 := H.cells
      go_wp2_with fail
      refine (may_any ⟨x, y, z⟩ i w5).mono ?_
      rintro e w6 ⟨_, rfl, rfl, H6⟩
      replace H := H.join H6
      have H : Own w w6 (blk cb (.cells #[.int .i64 x, .int .i64 y, .int .i64 z] 36) :: [slc 36 3 (.slice (some ⟨b, o, none⟩) N c) N (rows tcell l)]) := H
      clear H6 c0
      have c0 := H.cells
      rw [hmay.out]
      by_cases h3 : 3 ≤ (found s i).1
      · have hxm : Hid (x = (m : Int)) := Lib.hid (by have := htl.out; rw [if_pos h3] at this; exact this)
        have hm3 : 3 ≤ m := by have := hst.out; rw [if_pos h3] at this; omega
        have hx := hxm.out
        subst hx
        have hmz : ((m : Int) == 0) = false := by simp; omega
        clear htl hst
        go_wp2_with fail
        go_roundw
        case rel => exact ⟨k + 1, i + m, f, by go_num, by go_num, by omega, hsl, by omega, hnx, H.drop⟩
        case measure => simp [intOf]; omega
      · have hx : x = 0 := by have := htl.out; rw [if_neg h3] at this; exact this
        have hm1 : m = 1 := by have := hst.out; rw [if_neg h3] at this; exact this
        subst hx hm1
        have hno : Hid (∀ d, 1 ≤ d → d ≤ i → d ≤ 4096 → i + 3 ≤ s.size → key3 s (i - d) ≠ key3 s i) := Lib.hid (fun d a1 a2 a3 a4 => lit_none h3 a1 a2 a3 a4)
        clear htl hst h3
        go_wp2_with fail
        clear c0
        go_loopw [7] (fun s7 wr => ∃ d : Nat, s7 = .int .i64 ((d + 1 : Nat) : Int) ∧ d ≤ 4096 ∧ Own w wr (blk cb (.cells #[.int .i64 0, .int .i64 y, .int .i64 z] 36) :: [slc 36 3 (.slice (some ⟨b, o, none⟩) N c) N (rows tcell l)])) (fun s7 _ => 5000 - (intOf s7).toNat)
        case atStart => exact ⟨0, by simp, by omega, H⟩
        case round =>
          clear H
          obtain ⟨d, rfl, hd, H⟩ := hrel
          rw [show ((d + 1 : Nat) : Int) = (d : Int) + 1 by omega]
          have hw3 : IntKind.i64.wrap ((i : Int) + 3) = (i : Int) + 3 := IntWalk.i64_in _ ⟨by omega, by omega⟩
          have c0 := H.cells
          by_cases hA : (d : Int) + 1 ≤ (i : Int)
          · by_cases hB : (d : Int) + 1 ≤ 4096
            · by_cases hC : (i : Int) + 3 ≤ (s.size : Int)
              · obtain ⟨q, hq⟩ : ∃ q, Hid (i - (d + 1) = q) := ⟨_, rfl⟩
                have hne := hno.out (d + 1) (by omega) (by omega) (by omega) (by omega)
                rw [hq.out] at hne
                have hqI : (i : Int) - ((d : Int) + 1) = (q : Int) := by have := hq.out; omega
                obtain ⟨q1, hq1⟩ : ∃ q1, Hid (q + 1 = q1) := ⟨_, rfl⟩
                obtain ⟨q2, hq2⟩ : ∃ q2, Hid (q + 2 = q2) := ⟨_, rfl⟩
                obtain ⟨i1, hi1⟩ : ∃ i1, Hid (i + 1 = i1) := ⟨_, rfl⟩
                obtain ⟨i2, hi2⟩ : ∃ i2, Hid (i + 2 = i2) := ⟨_, rfl⟩
                have hq1I : (q : Int) + 1 = (q1 : Int) := by have := hq1.out; omega
                have hq2I : (q : Int) + 2 = (q2 : Int) := by have := hq2.out; omega
                have hi1I : (i : Int) + 1 = (i1 : Int) := by have := hi1.out; omega
                have hi2I : (i : Int) + 2 = (i2 : Int) := by have := hi2.out; omega
                have hqs : q < s.size := by have := hq.out; omega
                have hq1s : q1 < s.size := by have := hq.out; have := hq1.out; omega
                have hq2s : q2 < s.size := by have := hq.out; have := hq2.out; omega
                have hi1s : i1 < s.size := by have := hi1.out; omega
                have hi2s : i2 < s.size := by have := hi2.out; omega
                have hwq : IntKind.i64.wrap (q : Int) = (q : Int) := IntWalk.i64_in _ ⟨by omega, by omega⟩
                have hwq1 : IntKind.i64.wrap (q1 : Int) = (q1 : Int) := IntWalk.i64_in _ ⟨by omega, by omega⟩
                have hwq2 : IntKind.i64.wrap (q2 : Int) = (q2 : Int) := IntWalk.i64_in _ ⟨by omega, by omega⟩
                have hwi1 : IntKind.i64.wrap (i1 : Int) = (i1 : Int) := IntWalk.i64_in _ ⟨by omega, by omega⟩
                have hwi2 : IntKind.i64.wrap (i2 : Int) = (i2 : Int) := IntWalk.i64_in _ ⟨by omega, by omega⟩
                have e0 := byt_is hqs
                have e1 := byt_is hq1s
                have e2 := byt_is hq2s
                have e3 := byt_is hfi
                have e4 := byt_is hi1s
                have e5 := byt_is hi2s
                have hkk : ¬ (byt s q = byt s i ∧ byt s q1 = byt s i1 ∧ byt s q2 = byt s i2) := fun ⟨a1, a2, a3⟩ => hne (by unfold key3; rw [hq1.out, hq2.out, hi1.out, hi2.out, a1, a2, a3])
                clear hne c0
                have HK := Lib.hid hkk
                clear hkk
                clear hno
                by_cases ht0 : byt s q = byt s i
                · have htI := byt_beq (x := byt s q) (y := byt s i) (t := true) (by simp [ht0])
                  by_cases ht1 : byt s q1 = byt s i1
                  · have htI1 := byt_beq (x := byt s q1) (y := byt s i1) (t := true) (by simp [ht1])
                    have htI2 := byt_beq (x := byt s q2) (y := byt s i2) (t := false) (by
                      have := HK.out
                      simp only [ht0, ht1, true_and] at this
                      simpa using this)
                    clear ht0 ht1
                    go_upto_region 14 with (fail)
                    refine wp_region_calm (fun w1 => Own w w1 (blk cb (.cells #[.int .i64 0, .int .i64 y, .int .i64 z] 36) :: [slc 36 3 (.slice (some ⟨b, o, none⟩) N c) N (rows tcell l)])) 35 (by kernel_rfl) (by kernel_rfl) H.drew ?_
                    simp only [List.take_succ_cons, List.take_zero, List.drop_succ_cons, List.drop_zero]
                    repeat
                      first
                      | (refine calm_value (v := ?_) (by decide) rfl (fun σ w1 hS => ?_) ?_
                         rotate_left
                         · skip
                           first | (go_simp; rfl) | rfl
                         simp only [Act.put, List.setIfInBounds_toArray, List.set_cons_zero, List.set_cons_succ])
                      | (refine calm_skip (by decide) rfl ?_
                         simp only [Act.put, List.setIfInBounds_toArray, List.set_cons_zero, List.set_cons_succ])
                    refine calm_nil ?_
                    intro wd HD
                    clear H
                    go_wp2_with fail
                    go_roundw
                    case rel => exact ⟨d + 1, by go_num, by omega, HD⟩
                    case measure => simp [intOf]; omega
                  · have htI1 := byt_beq (x := byt s q1) (y := byt s i1) (t := false) (by simpa using ht1)
                    clear ht0 ht1
                    go_upto_region 14 with (fail)
                    refine wp_region_calm (fun w1 => Own w w1 (blk cb (.cells #[.int .i64 0, .int .i64 y, .int .i64 z] 36) :: [slc 36 3 (.slice (some ⟨b, o, none⟩) N c) N (rows tcell l)])) 35 (by kernel_rfl) (by kernel_rfl) H.drew ?_
                    simp only [List.take_succ_cons, List.take_zero, List.drop_succ_cons, List.drop_zero]
                    repeat
                      first
                      | (refine calm_value (v := ?_) (by decide) rfl (fun σ w1 hS => ?_) ?_
                         rotate_left
                         · skip
                           first | (go_simp; rfl) | rfl
                         simp only [Act.put, List.setIfInBounds_toArray, List.set_cons_zero, List.set_cons_succ])
                      | (refine calm_skip (by decide) rfl ?_
                         simp only [Act.put, List.setIfInBounds_toArray, List.set_cons_zero, List.set_cons_succ])
                    refine calm_nil ?_
                    intro wd HD
                    clear H
                    go_wp2_with fail
                    go_roundw
                    case rel => exact ⟨d + 1, by go_num, by omega, HD⟩
                    case measure => simp [intOf]; omega
                · have htI := byt_beq (x := byt s q) (y := byt s i) (t := false) (by simpa using ht0)
                  clear ht0
                  go_upto_region 14 with (fail)
                  refine wp_region_calm (fun w1 => Own w w1 (blk cb (.cells #[.int .i64 0, .int .i64 y, .int .i64 z] 36) :: [slc 36 3 (.slice (some ⟨b, o, none⟩) N c) N (rows tcell l)])) 35 (by kernel_rfl) (by kernel_rfl) H.drew ?_
                  simp only [List.take_succ_cons, List.take_zero, List.drop_succ_cons, List.drop_zero]
                  repeat
                    first
                    | (refine calm_value (v := ?_) (by decide) rfl (fun σ w1 hS => ?_) ?_
                       rotate_left
                       · skip
                         first | (go_simp; rfl) | rfl
                       simp only [Act.put, List.setIfInBounds_toArray, List.set_cons_zero, List.set_cons_succ])
                    | (refine calm_skip (by decide) rfl ?_
                       simp only [Act.put, List.setIfInBounds_toArray, List.set_cons_zero, List.set_cons_succ])
                  refine calm_nil ?_
                  intro wd HD
                  clear H
                  go_wp2_with fail
                  go_roundw
                  case rel => exact ⟨d + 1, by go_num, by omega, HD⟩
                  case measure => simp [intOf]; omega
              · clear hno
                go_wp2_with fail
                go_roundw
                case rel => exact ⟨k + 1, i + 1, f, by go_num, by go_num, by omega, hsl, by omega, hnx, H.drop⟩
                case measure => simp [intOf]; omega
            · clear hno
              go_wp2_with fail
              go_roundw
              case rel => exact ⟨k + 1, i + 1, f, by go_num, by go_num, by omega, hsl, by omega, hnx, H.drop⟩
              case measure => simp [intOf]; omega
          · clear hno
            go_wp2_with fail
            go_roundw
            case rel => exact ⟨k + 1, i + 1, f, by go_num, by go_num, by omega, hsl, by omega, hnx, H.drop⟩
            case measure => simp [intOf]; omega
    · have hkI : ¬ (k : Int) < (N : Int) := by omega
      have hfin : i = s.size := by
        rcases Nat.lt_or_ge i s.size with h | h
        · have h1 := hdr.out
          obtain ⟨f, rfl⟩ : ∃ f', f = f' + 1 := ⟨f - 1, by omega⟩
          rw [List.drop_eq_nil_of_le (by rw [hN.out]; omega), parseN, if_pos h] at h1
          simp at h1
        · omega
      subst hfin
      clear hdr
      go_wp2_with fail
      refine (awake_any H).mono ?_
      rintro e w4 ⟨_, rfl, rfl, H4⟩
      go_wp2
      go_ret
      exact ⟨_, rfl, rfl, H4.bare⟩
end Go.Proofs.Yteblnmealnmipaa
