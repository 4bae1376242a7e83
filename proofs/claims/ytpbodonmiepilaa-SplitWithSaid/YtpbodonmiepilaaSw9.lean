/-
  Texts of this claim, one behind the other: inflate, the document's; flate; inflate, the document's; split.
-/
import Derived.Test.YtpbodonmiepilaaSw8
set_option linter.unusedVariables false
/- inflate, the document's: the walk of tokens. -/
namespace Go.Proofs.Ytpbodonmiepilaa
open Go.RowKit

theorem lenT_bd : ∀ i : Fin 29, (lenT0 (257 + i.1)).1 ≤ 258 ∧ 3 ≤ (lenT0 (257 + i.1)).1 ∧ (lenT0 (257 + i.1)).2 ≤ 5 := by decide
theorem distT_bd : ∀ i : Fin 30, (distT0 i.1).1 ≤ 24577 ∧ 1 ≤ (distT0 i.1).1 ∧ (distT0 i.1).2 ≤ 13 := by decide
theorem lenT_fst (i : Nat) : (fsts lensT).getD i 0 = ((lenT0 (257 + i)).1 : Int) := by rw [fsts_getD]; unfold lenT0; rw [Nat.add_sub_cancel_left]
theorem lenT_snd (i : Nat) : (snds lensT).getD i 0 = ((lenT0 (257 + i)).2 : Int) := by rw [snds_getD]; unfold lenT0; rw [Nat.add_sub_cancel_left]
theorem distT_fst (i : Nat) : (fsts distsT).getD i 0 = ((distT0 i).1 : Int) := fsts_getD _ _
theorem distT_snd (i : Nat) : (snds distsT).getD i 0 = ((distT0 i).2 : Int) := snds_getD _ _
theorem Own.sta_o {w0 w : World} {ps : List Piece} {g rg n : Nat} {s : ByteArray} {out : List Int} {most e : Int} (H : Own w0 w (Sta g rg s n out most e :: ps)) : sliceLen ((w.cell? ⟨g, 1, none⟩).getD undef) = out.length := by
  obtain ⟨a, c, b, _, _, H⟩ := H.sta
  rw [H.cells]; rfl
theorem tmeas_sta {w0 w : World} {ps : List Piece} {m g rg n : Nat} {s : ByteArray} {out : List Int} {most e : Int} (H : Own w0 w (Sta g rg s n out most e :: ps)) : tmeas m ((w.cell? ⟨g, 1, none⟩).getD undef) ((w.cell? ⟨g, 3, none⟩).getD undef) = if e = 0 then m + 1 - out.length else 0 := by
  unfold tmeas
  rw [H.sta_o, H.sta_e]
  rfl
theorem got_add {g : Got Int} {v e b : Int} {m : Nat} (h : GotR g v m e) : GotR (g.bind fun v m => .ok (b + v) m) (b + v) m e := by
  cases g with
  | ok v0 n0 => obtain ⟨rfl, rfl, rfl⟩ := h; exact ⟨rfl, rfl, rfl⟩
  | ran => exact h
  | bad e0 => exact h
def RTokP (w0 : World) (ps : List Piece) (g rg : Nat) (s : ByteArray) (most : Int) (last : Bool) (st0 : Inf) (w' : World) : Prop :=
  ∃ out' n' e', (out'.length : Int) ≤ most ∧ n' ≤ 8 * s.size ∧ TokEnd (textBits s) most last st0 out' n' e' ∧ Own w0 w' (Sta g rg s n' out' most e' :: ps)
set_option maxRecDepth 100000 in
set_option maxHeartbeats 6400000 in
theorem rtokens_any {w0 w : World} {ps : List Piece} {g rg n : Nat} {s : ByteArray} {lv dv : Value} {L D out : List Int} {most : Int} (last : Bool) (hL : Reads w0 ps 1 lv L.length (nums L)) (hD : Reads w0 ps 1 dv D.length (nums D)) (tL : terrF L = 0) (tD : terrF D = 0) (hm : 0 ≤ most ∧ most ≤ 1000000) (ho : (out.length : Int) ≤ most) (hs : s.size ≤ 1000000) (hn : n ≤ 8 * s.size) (H : Own w0 w (Sta g rg s n out most 0 :: ps)) :
    Calls Try.prog 44 #[.pointer (some ⟨g, 0, none⟩), lv, dv] w (Ret fun _ w' => RTokP w0 ps g rg s most last ⟨n, out, some (L, D), last⟩ w') := by
  obtain ⟨B, hB⟩ : ∃ B, Hid (textBits s = B) := ⟨_, rfl⟩
  obtain ⟨st0, hst0⟩ : ∃ st0, Hid ((⟨n, out, some (L, D), last⟩ : Inf) = st0) := ⟨_, rfl⟩
  have hst : Hid (TokSt B most (L, D) last st0 out n 0) := Lib.hid ⟨fun _ => by rw [hst0.out]; exact .refl _, fun h => absurd rfl h⟩
  obtain ⟨hm0, hm1⟩ := hm
  obtain ⟨mN, hmN⟩ : ∃ mN : Nat, most = mN := ⟨most.toNat, by omega⟩
  replace hmN := Lib.hid hmN
  rw [hst0.out]
  obtain ⟨la, lc, rfl, -⟩ := (hL w H.drop).shape
  obtain ⟨da, dc, rfl, -⟩ := (hD w H.drop).shape
  obtain ⟨hL1, hL2, -⟩ := table_ok tL
  obtain ⟨hD1, hD2, -⟩ := table_ok tD
  have hcL : Hid (cresF L = codesF L) := Lib.hid (by unfold cresF; rw [if_pos (terr_cerr tL)])
  have hcD : Hid (cresF D = codesF D) := Lib.hid (by unfold cresF; rw [if_pos (terr_cerr tD)])
  clear tL tD hst0
  go_enter Try.func44, Try.ntmps44
  go_wp2_with fail
  refine (rlens_any _).mono ?_
  rintro e0 w1 ⟨_, rfl, v1, u1, rfl, J⟩
  replace H : Own w0 w1 (slc 3 1 v1 29 (nums (fsts lensT)) :: slc 3 1 u1 29 (nums (snds lensT)) :: Sta g rg s n out most 0 :: ps) := H.join J
  clear J
  obtain ⟨b1, o1, c1, rfl, hc1, hc1'⟩ := H.rd.some (by rw [nums_length]; decide)
  obtain ⟨b2, o2, c2, rfl, hc2, hc2'⟩ := (H.front 1 rfl).rd.some (by rw [nums_length]; decide)
  go_wp2_with fail
  refine (rdists_any _).mono ?_
  rintro e0 w2 ⟨_, rfl, v3, u3, rfl, J⟩
  replace H : Own w0 w2 (slc 3 1 v3 30 (nums (fsts distsT)) :: slc 3 1 u3 30 (nums (snds distsT)) :: slc 3 1 (.slice (some ⟨b1, o1, none⟩) 29 c1) 29 (nums (fsts lensT)) :: slc 3 1 (.slice (some ⟨b2, o2, none⟩) 29 c2) 29 (nums (snds lensT)) :: Sta g rg s n out most 0 :: ps) := H.join J
  clear J
  obtain ⟨b3, o3, c3, rfl, hc3, hc3'⟩ := H.rd.some (by rw [nums_length]; decide)
  obtain ⟨b4, o4, c4, rfl, hc4, hc4'⟩ := (H.front 1 rfl).rd.some (by rw [nums_length]; decide)
  have KL := Lib.hid (fun wz (h : Own w0 wz ps) => rtable_any (hL wz h) (by omega))
  have KD := Lib.hid (fun wz (h : Own w0 wz ps) => rtable_any (hD wz h) (by omega))
  rw [hcL.out, codesF_length] at KL
  rw [hcD.out, codesF_length] at KD
  go_wp2_with fail
  refine (KL.out _ H.drop.drop.drop.drop.drop).mono ?_
  rintro e0 w3 ⟨_, rfl, u5, rfl, J⟩
  replace H := H.join J
  clear J
  obtain ⟨a5, c5, rfl, -⟩ := H.rd.shape
  go_wp2_with fail
  refine (KD.out _ H.drop.drop.drop.drop.drop.drop).mono ?_
  rintro e0 w4 ⟨_, rfl, u6, rfl, J⟩
  replace H := H.join J
  clear J KL KD
  obtain ⟨a6, c6, rfl, -⟩ := H.rd.shape
  have H9 := H.alloc2 (.cells #[.slice none 0 0, .slice none 0 0] 109) (.cells #[.slice none 0 0, .slice none 0 0] 109)
  clear H
  go_upto_block 0 with (first
    | (refine wpList_store_agg (vs := [.slice la L.length lc, .slice a5 L.length c5]) rfl _ _ rfl rfl (H9.front 1 rfl) rfl (by kernel_rfl) (by simp) (by simp [Value.oneCell']) rfl ?_; clear H9; intro w8 H8)
    | (refine wpList_store_agg (vs := [.slice da D.length dc, .slice a6 D.length c6]) rfl _ _ rfl rfl (H8.front 1 rfl) rfl (by kernel_rfl) (by simp) (by simp [Value.oneCell']) rfl ?_; clear H8; intro w9 H))
  obtain ⟨t11, ht11⟩ : ∃ k, w4.heap.size + 1 = k := ⟨_, rfl⟩
  rw [ht11] at H ⊢
  generalize w4.heap.size = t10 at *
  clear ht11
  obtain ⟨PS, HP, FTL, FTD, FL, FD, FX, FE⟩ : ∃ PS : List Piece, Own w0 w9 (Sta g rg s n out most 0 :: PS) ∧ Hid (TabR w0 PS (.slice la L.length lc) (.slice a5 L.length c5) L.length L) ∧ Hid (TabR w0 PS (.slice da D.length dc) (.slice a6 D.length c6) D.length D) ∧
      Hid (∀ w' X, Own w0 w' (X :: PS) → ∀ i, i < 29 → w'.cell? ⟨b1, o1 + i, none⟩ = some (.int .i64 (lenT0 (257 + i)).1) ∧ w'.cell? ⟨b2, o2 + i, none⟩ = some (.int .i64 (lenT0 (257 + i)).2)) ∧
      Hid (∀ w' X, Own w0 w' (X :: PS) → ∀ i, i < 30 → w'.cell? ⟨b3, o3 + i, none⟩ = some (.int .i64 (distT0 i).1) ∧ w'.cell? ⟨b4, o4 + i, none⟩ = some (.int .i64 (distT0 i).2)) ∧
      Hid (∀ w' X, Own w0 w' (X :: PS) → (∀ i, w'.cell? ⟨t10, i, none⟩ = #[.slice la L.length lc, .slice a5 L.length c5][i]?) ∧ (∀ i, w'.cell? ⟨t11, i, none⟩ = #[.slice da D.length dc, .slice a6 D.length c6][i]?)) ∧
      Hid (∀ w' X, Own w0 w' (X :: PS) → Own w0 w' (X :: ps)) := by
    refine ⟨_, H.front 8 rfl, Lib.hid fun w' h => ?_, Lib.hid fun w' h => ?_, Lib.hid fun w' X h i hi => ?_, Lib.hid fun w' X h i hi => ?_, Lib.hid fun w' X h => ?_, Lib.hid fun w' X h => ?_⟩
    · exact ⟨hL w' h.drop.drop.drop.drop.drop.drop.drop.drop, (h.front 3 rfl).rd⟩
    · exact ⟨hD w' h.drop.drop.drop.drop.drop.drop.drop.drop, (h.front 2 rfl).rd⟩
    · obtain ⟨_, _, e1, h1⟩ := rd_at (h.front 7 rfl).rd (Own.start w') hi
      obtain ⟨_, _, e2, h2⟩ := rd_at (h.front 8 rfl).rd (Own.start w') hi
      cases e1; cases e2
      rw [lenT_fst] at h1
      rw [lenT_snd] at h2
      exact ⟨h1, h2⟩
    · obtain ⟨_, _, e1, h1⟩ := rd_at (h.front 5 rfl).rd (Own.start w') hi
      obtain ⟨_, _, e2, h2⟩ := rd_at (h.front 6 rfl).rd (Own.start w') hi
      cases e1; cases e2
      rw [distT_fst] at h1
      rw [distT_snd] at h2
      exact ⟨h1, h2⟩
    · exact ⟨(h.front 2 rfl).cells, (h.front 1 rfl).cells⟩
    · exact (h.front 1 rfl).drop.front 1 rfl |>.drop |>.front 1 rfl |>.drop |>.front 1 rfl |>.drop |>.front 1 rfl |>.drop |>.front 1 rfl |>.drop |>.front 1 rfl |>.drop |>.front 1 rfl |>.drop
  replace H := HP
  clear HP hL hD
  simp only [Act.put]
  go_wp2_with fail
  go_loopw [12] (fun _ wx => ∃ (out1 : List Int) (n1 : Nat) (e1 : Int), (out1.length : Int) ≤ most ∧ n1 ≤ 8 * s.size ∧ Hid (TokSt B most (L, D) last st0 out1 n1 e1) ∧ Own w0 wx (Sta g rg s n1 out1 most e1 :: PS)) (fun _ wx => tmeas mN ((wx.cell? ⟨g, 1, none⟩).getD undef) ((wx.cell? ⟨g, 3, none⟩).getD undef))
  case atStart => exact ⟨out, n, 0, ho, hn, hst, H⟩
  case round =>
    clear H hst ho hn
    obtain ⟨out1, n1, e1, ho, hn1, hst, H⟩ := hrel
    clear out n
    obtain ⟨M, hM⟩ : ∃ M, Hid (out1.length = M) := ⟨_, rfl⟩
    have hmz : Hid (tmeas mN ((wr.cell? ⟨g, 1, none⟩).getD undef) ((wr.cell? ⟨g, 3, none⟩).getD undef) = if e1 = 0 then mN + 1 - M else 0) := Lib.hid (by rw [tmeas_sta H, hM.out])
    have ce := H.sta_e
    by_cases he : e1 = 0
    case neg =>
      have heb : (e1 == 0) = false := by simp [he]
      have hfin : Hid (TokEnd B most last st0 out1 n1 e1) := Lib.hid ⟨fun h => absurd h he, fun h => hst.out.2 h⟩
      clear he hst hmz
      go_wp2
      go_end0
      exact ⟨_, rfl, show RTokP _ _ _ _ _ _ _ _ _ from ⟨out1, n1, e1, ho, hn1, by rw [hB.out]; exact hfin.out, FE.out _ _ H⟩⟩
    subst he
    replace hmz := Lib.hid (hmz.out.trans (if_pos rfl))
    rw [hM.out] at ho
    have HS := Lib.hid (rsym_any (g := g) (rg := rg) (fun _ => ⟨FTL.out, hL2, rfl, by omega⟩) hs hn1 H)
    obtain ⟨x0, x1⟩ := FX.out _ _ H
    go_wp2_with fail
    refine HS.out.mono ?_
    rintro e0 w1 ⟨_, rfl, v, n2, e2, rfl, hv0, hv1, hn2, -, hg, H1⟩
    have hts := Lib.hid (tok_sym (most := most) (D := D) (out := out1) (hg rfl))
    rw [hB.out] at hts
    clear HS H hg ce x0 x1
    have ce := H1.sta_e
    by_cases he2 : e2 = 0
    case neg =>
      have heb : (e2 != 0) = true := by simp [he2]
      have heb2 : (e2 == 0) = false := by simp [he2]
      have hfin : Hid (TokEnd B most last st0 out1 n2 e2) := Lib.hid ⟨fun h => absurd h he2, fun h => (tok_round hst.out (hts.out.1 h)).1 h⟩
      clear he2 hst hmz hts
      go_wp2
      refine bodyPost_ret (results_none rfl _ _ _) rfl ?_
      exact ⟨_, rfl, show RTokP _ _ _ _ _ _ _ _ _ from ⟨out1, n2, e2, by rw [hM.out]; exact ho, hn2, by rw [hB.out]; exact hfin.out, FE.out _ _ H1⟩⟩
    subst he2
    by_cases hv : v = 256
    · subst hv
      have hfin : Hid (TokEnd B most last st0 out1 n2 0) := Lib.hid (((tok_round hst.out (hts.out.2.1 rfl rfl)).2 rfl).2 rfl)
      clear hst hmz hts
      go_wp2
      refine bodyPost_ret (results_none rfl _ _ _) rfl ?_
      exact ⟨_, rfl, show RTokP _ _ _ _ _ _ _ _ _ from ⟨out1, n2, 0, by rw [hM.out]; exact ho, hn2, by rw [hB.out]; exact hfin.out, FE.out _ _ H1⟩⟩
    have hvb : (v == 256) = false := by simp [hv]
    by_cases hv2 : v < 256
    · have hrt := Lib.hid (hts.out.2.2.1 rfl hv2)
      clear hts hv
      rw [hM.out] at hrt
      have hu8 : IntKind.u8.wrap v = v := IntWalk.u8_in _ ⟨by omega, by omega⟩
      obtain ⟨a, c, b, h1, h2, HI⟩ := H1.sta
      rw [hM.out] at HI h1
      have hw : IntKind.i64.wrap (most - (M : Int)) = most - M := IntWalk.i64_in _ ⟨by omega, by omega⟩
      obtain ⟨lt, hlt⟩ : ∃ lt, Hid (decide (most - (M : Int) < 1) = lt) := ⟨_, rfl⟩
      go_upto_region 7 with (fail)
      refine wp_region_calm (fun w1 => Own w0 w1 (blk g (.cells #[.pointer (some ⟨rg, 0, none⟩), .slice a M c, .int .i64 most, .int .i64 0, .bool b] 67) :: slc 5 1 (.slice a M c) M (bcells out1) :: RRdr rg s n2 :: PS)) 12 (by kernel_rfl) (by kernel_rfl) HI.drew ?_
      simp only [List.take_succ_cons, List.take_zero, List.drop_succ_cons, List.drop_zero]
      repeat
        first
        | (refine calm_value (v := ?_) (by decide) rfl (fun σ w1 hS => ?_) ?_
           rotate_left
           · have c0 := hS.cells
             first | (go_simp; rfl) | rfl
           simp only [Act.put, List.setIfInBounds_toArray, List.set_cons_zero, List.set_cons_succ])
        | (refine calm_skip (by decide) rfl ?_
           simp only [Act.put, List.setIfInBounds_toArray, List.set_cons_zero, List.set_cons_succ])
      refine calm_nil ?_
      intro wd HD
      rw [hlt.out]
      clear HI H1 ce
      have HQ := Lib.hid (rfault_any (g := g) (rg := rg) lt 12 (HD.unsta hM.out.symm))
      go_wp2_with fail
      refine HQ.out.mono ?_
      rintro e0 w3 ⟨_, rfl, H3⟩
      clear HD HQ
      cases lt with
      | true =>
        rw [flt_yes] at H3
        have ce := H3.sta_e
        have hfin := Lib.hid ((tok_round hst.out (hrt.out.1 (of_decide_eq_true hlt.out))).1 (by decide))
        clear hrt hst hlt
        go_wp2_with fail
        go_roundw
        case rel => exact ⟨out1, n2, 12, by rw [hM.out]; exact ho, hn2, Lib.hid ⟨fun h => absurd h (by decide), fun _ => hfin.out⟩, H3⟩
        case measure => rw [hmz.out, tmeas_sta H3, if_neg (by decide)]; have := hmN.out; omega
      | false =>
        rw [flt_no] at H3
        have hlt2 := of_decide_eq_false hlt.out
        have hfin := Lib.hid (((tok_round hst.out (hrt.out.2 (by omega))).2 rfl).1 _ rfl)
        clear hrt hst hlt
        obtain ⟨a, c, b, h1, h2, H⟩ := H3.sta
        rw [hM.out] at H
        have c0 := H.cells
        clear H3
        have H4 := H.front 1 rfl
        clear H
        go_wp2_with (first
          | (at_builtin; refine wpList_append_one rfl _ _ rfl Try.underlying54 u8Info rfl (by decide) rfl H4 (news := [.int .u8 v]) rfl rfl rfl (by simp [Value.oneCell']) (by omega) (by omega) ?_; clear H4 c0; intro v' w' H; obtain ⟨a', c', rfl, h1', h2'⟩ := H.rd.shape)
          | (refine wpList_store_slice rfl _ _ rfl rfl (H.front 1 rfl) rfl (by kernel_rfl) (by simp) ?_; clear H; intro w2 H))
        have hlen : M + 1 = (out1 ++ [v]).length := by rw [List.length_append, hM.out]; rfl
        have H5 : Own w0 w2 (Sta g rg s n2 (out1 ++ [v]) most 0 :: PS) := Own.unsta (by rw [← bcells_snoc]; exact H) hlen
        clear H
        simp only [Act.put]
        go_roundw
        case rel => exact ⟨out1 ++ [v], n2, 0, by omega, hn2, hfin, H5⟩
        case measure => rw [hmz.out, tmeas_sta H5, if_pos rfl, ← hlen]; have := hmN.out; omega
    · have hv3 : 256 < v := by omega
      have hG := Lib.hid (hts.out.2.2.2 rfl hv3)
      obtain ⟨G, hGG⟩ : ∃ G, Hid (tokG B most L D out1 n1 = G) := ⟨_, rfl⟩
      rw [hGG.out] at hG
      clear hts
      obtain ⟨c, rfl⟩ : ∃ c : Nat, v = c := ⟨v.toNat, by omega⟩
      by_cases hc285 : 285 < c
      · have hcI : (285 : Int) < (c : Int) := by omega
        have hfin : Hid (Faults B most st0 2) := Lib.hid ((tok_round (r := none) (m := 0) hst.out (by rw [hGG.out, hG.out]; unfold lenG; rw [if_pos (by omega)]; exact (rfl : GotR (Got.bad 2) none 0 2))).1 (by decide))
        obtain ⟨a, cc, b, h1, h2, H⟩ := H1.sta
        have c0 := H.cells
        clear H1 ce hst hmz hG hGG
        go_wp2_with (refine wpList_store_int rfl _ _ rfl rfl H rfl (by kernel_rfl) (by simp) ?_; clear H c0; intro w3 H)
        refine bodyPost_ret (results_none rfl _ _ _) rfl ?_
        exact ⟨_, rfl, show RTokP _ _ _ _ _ _ _ _ _ from ⟨out1, n2, 2, by rw [hM.out]; exact ho, hn2, by rw [hB.out]; exact ⟨fun h => absurd h (by decide), fun _ => hfin.out⟩, FE.out _ _ (H.unsta rfl)⟩⟩
      · obtain ⟨i, hci⟩ : ∃ i, Hid (c = 257 + i) := ⟨c - 257, Lib.hid (by omega)⟩
        have hi29 : i < 29 := by have := hci.out; omega
        have hcI : ¬ (285 : Int) < (c : Int) := by omega
        have hwc : IntKind.i64.wrap ((c : Int) - 257) = (i : Int) := by have := hci.out; rw [show (c : Int) - 257 = i by omega]; exact IntWalk.i64_in _ ⟨by omega, by omega⟩
        have hiI : (i : Int) < 29 := by omega
        obtain ⟨hlb1, hlb2, hlb3⟩ := lenT_bd ⟨i, hi29⟩
        have FLi := Lib.hid (fun w' X h => FL.out w' X h i hi29)
        simp only at hlb1 hlb2 hlb3
        obtain ⟨q1, q2, hq⟩ : ∃ q1 q2, Hid (lenT0 (257 + i) = (q1, q2)) := ⟨_, _, rfl⟩
        rw [hq.out] at hlb1 hlb2 hlb3 FLi
        simp only at hlb1 hlb2 hlb3 FLi
        obtain ⟨hf1, hf2, hf3, -, hf5⟩ := rk_facts (s := s) (n := n2) (k := q2) (e := 0) (by omega) hn2
        have HT := Lib.hid (fun wz (h : Own w0 wz (Sta g rg s n2 out1 most 0 :: PS)) => rtake_kn q2 (by omega) h hs hn2)
        obtain ⟨V, hV⟩ : ∃ V, Hid (rkV s n2 q2 0 = V) := ⟨_, rfl⟩
        obtain ⟨n3, hn3e⟩ : ∃ M, Hid (rkN s n2 q2 0 = M) := ⟨_, rfl⟩
        obtain ⟨e3, he3e⟩ : ∃ E, Hid (rkE s n2 q2 0 = E) := ⟨_, rfl⟩
        rw [hV.out, hn3e.out, he3e.out] at HT hf5
        rw [hV.out] at hf1 hf2
        rw [hn3e.out] at hf3
        have hg3 : Hid (GotR (lenG B c n2) (q1 + V) n3 e3) := Lib.hid (by
          unfold lenG
          rw [if_neg hcI, Int.toNat_natCast, hci.out, hq.out]
          have h := hf5 rfl
          rw [hB.out] at h
          exact got_add h)
        have hwV : IntKind.i64.wrap ((q1 : Int) + V) = q1 + V := IntWalk.i64_in _ ⟨by omega, by omega⟩
        clear hV hn3e he3e hf5 hc285 hq
        go_upto_region 12 with (fail)
        have HD0 := H1.drew
        clear H1 ce
        refine Trk.wp_region_new (fun σ w1 => Own w0 w1 ((if (σ 11).isSome then Sta g rg s n3 out1 most e3 else Sta g rg s n2 out1 most 0) :: PS)) 13 [] [11] (by intro k hk; simp at hk; subst hk; exact ⟨by omega, by simp, fun o ho => by simp at ho; subst ho; rfl⟩) (by kernel_rfl) (by kernel_rfl) HD0 ?_
        simp only [List.take_succ_cons, List.take_zero, List.drop_succ_cons, List.drop_zero]
        repeat
          first
          | (refine Trk.calm_value (v := ?_) (by decide) (by decide) rfl (fun σ w1 hS => ?_) ?_
             rotate_left
             · obtain ⟨c4, c5⟩ := FLi.out _ _ hS
               first | (go_simp; rfl) | rfl
             simp only [Act.put, List.setIfInBounds_toArray, List.set_cons_zero, List.set_cons_succ])
          | (refine Trk.calm_skip (by decide) rfl ?_
             simp only [Act.put, List.setIfInBounds_toArray, List.set_cons_zero, List.set_cons_succ])
        refine kcalm_call (v := .int .i64 V) (by decide) (by decide) rfl (fun w1 => (by go_simp; first | exact ⟨rfl, rfl⟩ | rfl)) (fun σ w1 hS hn => ?_) ?_
        · rw [hn] at hS
          refine (HT.out _ hS).mono ?_
          rintro e5 w6 ⟨_, rfl, rfl, h5⟩
          refine ⟨rfl, ?_⟩
          simpa [Sig.upd] using h5
        simp only [Act.put, List.setIfInBounds_toArray, List.set_cons_zero, List.set_cons_succ]
        repeat
          first
          | (refine Trk.calm_value (v := ?_) (by decide) (by decide) rfl (fun σ w1 hS => ?_) ?_
             rotate_left
             · skip
               first | (go_simp; rfl) | rfl
             simp only [Act.put, List.setIfInBounds_toArray, List.set_cons_zero, List.set_cons_succ])
          | (refine Trk.calm_skip (by decide) rfl ?_
             simp only [Act.put, List.setIfInBounds_toArray, List.set_cons_zero, List.set_cons_succ])
        refine Trk.calm_nil ?_
        intro σ wd _ hσ HD
        have h8 := hσ 11 (by decide)
        rw [if_pos h8] at HD
        clear hσ h8 HD0 HT FLi
        simp only [putNew, List.foldl_nil]
        obtain ⟨len, hlen⟩ : ∃ len : Int, (q1 : Int) + V = len := ⟨_, rfl⟩
        have hl0 : 3 ≤ len := by omega
        have hl1 : len ≤ 70000 := by omega
        rw [hlen] at hg3
        have HS := Lib.hid (rsym_any (g := g) (rg := rg) (fun _ => ⟨FTD.out, hD2, rfl, by omega⟩) hs hf3 HD)
        obtain ⟨x0, x1⟩ := FX.out _ _ HD
        go_wp2_with fail
        refine HS.out.mono ?_
        rintro e0 w3 ⟨_, rfl, k, n4, e4, rfl, hk0, hk1, hn4, he4, hg4, H3⟩
        rw [hB.out] at hg4
        replace hg4 := Lib.hid hg4
        replace he4 := Lib.hid fun h => (he4 h).1
        obtain ⟨k, rfl⟩ : ∃ j : Nat, k = j := ⟨k.toNat, by omega⟩
        clear HS HD x0 x1
        obtain ⟨bk, hbk⟩ : ∃ b, Hid (decide (29 < (k : Int)) = b) := ⟨_, rfl⟩
        have HQ := Lib.hid (rfault_any (g := g) (rg := rg) bk 2 H3)
        obtain ⟨e5, he5⟩ : ∃ x, Hid (fltF bk 2 e4 = x) := ⟨_, rfl⟩
        rw [he5.out] at HQ
        have hbk1 := hbk.out
        go_wp2_with fail
        refine HQ.out.mono ?_
        rintro e0 w4 ⟨_, rfl, H4⟩
        clear HQ H3 hbk1
        have ce := H4.sta_e
        by_cases he50 : e5 = 0
        case neg =>
          have heb : (e5 != 0) = true := by simp [he50]
          have heb2 : (e5 == 0) = false := by simp [he50]
          have hfin : Hid (Faults B most st0 e5) := Lib.hid (by
            have h1 : e4 ≠ 0 → e5 = e4 := fun h => by rw [← he5.out, flt_ne h]
            have h2 : e4 = 0 → GotR (distG B k n4) 0 0 e5 := fun h => by
              cases bk with
              | true =>
                rw [← he5.out, h, flt_yes]
                unfold distG
                rw [if_pos (of_decide_eq_true hbk.out)]
                rfl
              | false => rw [← he5.out, h, flt_no] at he50; exact absurd rfl he50
            exact (tok_round hst.out (by rw [hGG.out]; exact (tok_far hG.out hg3.out he4.out hg4.out h1 h2).1 he50)).1 he50)
          clear hst hmz hG hGG hg3 hg4 he4 hbk he5
          replace he50 := Lib.hid he50
          go_wp2
          refine bodyPost_ret (results_none rfl _ _ _) rfl ?_
          exact ⟨_, rfl, show RTokP _ _ _ _ _ _ _ _ _ from ⟨out1, n4, e5, by rw [hM.out]; exact ho, hn4, by rw [hB.out]; exact ⟨fun h => absurd h he50.out, fun _ => hfin.out⟩, FE.out _ _ H4⟩⟩
        subst he50
        obtain ⟨rfl, hk30⟩ : e4 = 0 ∧ k < 30 := by
          have h := he5.out
          cases bk with
          | true =>
            unfold fltF at h
            by_cases h4 : e4 = 0
            · rw [if_pos ⟨rfl, h4⟩] at h; cases h
            · rw [if_neg (fun hh => h4 hh.2)] at h; exact absurd h h4
          | false =>
            rw [flt_no] at h
            have := of_decide_eq_false hbk.out
            exact ⟨h, by omega⟩
        clear he5 hbk
        have hkI : (k : Int) < 30 := by omega
        obtain ⟨hdb1, hdb2, hdb3⟩ := distT_bd ⟨k, hk30⟩
        have FDk := Lib.hid (fun w' X h => FD.out w' X h k hk30)
        simp only at hdb1 hdb2 hdb3
        obtain ⟨q3, q4, hq⟩ : ∃ q3 q4, Hid (distT0 k = (q3, q4)) := ⟨_, _, rfl⟩
        rw [hq.out] at hdb1 hdb2 hdb3 FDk
        simp only at hdb1 hdb2 hdb3 FDk
        obtain ⟨hf1', hf2', hf3', -, hf5⟩ := rk_facts (s := s) (n := n4) (k := q4) (e := 0) (by omega) hn4
        have HT := Lib.hid (fun wz (h : Own w0 wz (Sta g rg s n4 out1 most 0 :: PS)) => rtake_kn q4 (by omega) h hs hn4)
        obtain ⟨U, hU⟩ : ∃ V, Hid (rkV s n4 q4 0 = V) := ⟨_, rfl⟩
        obtain ⟨n5, hn5e⟩ : ∃ M, Hid (rkN s n4 q4 0 = M) := ⟨_, rfl⟩
        obtain ⟨e5, he5e⟩ : ∃ E, Hid (rkE s n4 q4 0 = E) := ⟨_, rfl⟩
        rw [hU.out, hn5e.out, he5e.out] at HT hf5
        rw [hU.out] at hf1' hf2'
        rw [hn5e.out] at hf3'
        have hg5 : Hid (GotR (distG B k n4) (q3 + U) n5 e5) := Lib.hid (by
          unfold distG
          rw [if_neg (by omega), Int.toNat_natCast, hq.out]
          have h := hf5 rfl
          rw [hB.out] at h
          exact got_add h)
        have hwU : IntKind.i64.wrap ((q3 : Int) + U) = q3 + U := IntWalk.i64_in _ ⟨by omega, by omega⟩
        clear hU hn5e he5e hf5 hq
        go_upto_region 16 with (fail)
        have HD0 := H4.drew
        clear H4 ce
        refine Trk.wp_region_new (fun σ w1 => Own w0 w1 ((if (σ 9).isSome then Sta g rg s n5 out1 most e5 else Sta g rg s n4 out1 most 0) :: PS)) 11 [] [9] (by intro k hk; simp at hk; subst hk; exact ⟨by omega, by simp, fun o ho => by simp at ho; subst ho; rfl⟩) (by kernel_rfl) (by kernel_rfl) HD0 ?_
        simp only [List.take_succ_cons, List.take_zero, List.drop_succ_cons, List.drop_zero]
        repeat
          first
          | (refine Trk.calm_value (v := ?_) (by decide) (by decide) rfl (fun σ w1 hS => ?_) ?_
             rotate_left
             · obtain ⟨c4, c5⟩ := FDk.out _ _ hS
               first | (go_simp; rfl) | rfl
             simp only [Act.put, List.setIfInBounds_toArray, List.set_cons_zero, List.set_cons_succ])
          | (refine Trk.calm_skip (by decide) rfl ?_
             simp only [Act.put, List.setIfInBounds_toArray, List.set_cons_zero, List.set_cons_succ])
        refine kcalm_call (v := .int .i64 U) (by decide) (by decide) rfl (fun w1 => (by go_simp; first | exact ⟨rfl, rfl⟩ | rfl)) (fun σ w1 hS hn => ?_) ?_
        · rw [hn] at hS
          refine (HT.out _ hS).mono ?_
          rintro e6 w6 ⟨_, rfl, rfl, h5⟩
          refine ⟨rfl, ?_⟩
          simpa [Sig.upd] using h5
        simp only [Act.put, List.setIfInBounds_toArray, List.set_cons_zero, List.set_cons_succ]
        repeat
          first
          | (refine Trk.calm_value (v := ?_) (by decide) (by decide) rfl (fun σ w1 hS => ?_) ?_
             rotate_left
             · skip
               first | (go_simp; rfl) | rfl
             simp only [Act.put, List.setIfInBounds_toArray, List.set_cons_zero, List.set_cons_succ])
          | (refine Trk.calm_skip (by decide) rfl ?_
             simp only [Act.put, List.setIfInBounds_toArray, List.set_cons_zero, List.set_cons_succ])
        refine Trk.calm_nil ?_
        intro σ wd2 _ hσ HD
        have h8 := hσ 9 (by decide)
        rw [if_pos h8] at HD
        clear hσ h8 HD0 HT FDk
        simp only [putNew, List.foldl_nil]
        obtain ⟨d, hd⟩ : ∃ d : Int, (q3 : Int) + U = d := ⟨_, rfl⟩
        have hd0 : 1 ≤ d := by omega
        have hd1 : d ≤ 100000 := by omega
        rw [hd] at hg5
        have hfar := Lib.hid (tok_far hG.out hg3.out he4.out hg4.out (fun h => absurd rfl h) (fun _ => hg5.out))
        rw [hM.out] at hfar
        clear hG hg3 hg4 he4 hg5
        obtain ⟨bd, hbd⟩ : ∃ b, Hid (decide ((M : Int) < d) = b) := ⟨_, rfl⟩
        obtain ⟨lt, hlt⟩ : ∃ b, Hid (decide (most - (M : Int) < len) = b) := ⟨_, rfl⟩
        have hw : IntKind.i64.wrap (most - (M : Int)) = most - M := IntWalk.i64_in _ ⟨by omega, by omega⟩
        obtain ⟨e6, he6⟩ : ∃ x, Hid (fltF bd 2 e5 = x) := ⟨_, rfl⟩
        obtain ⟨e7, he7⟩ : ∃ x, Hid (fltF lt 12 e6 = x) := ⟨_, rfl⟩
        have hend : Hid ((e7 ≠ 0 → Faults B most st0 e7) ∧ (e7 = 0 → e5 = 0 ∧ ¬ (M : Int) < d ∧ ¬ most - (M : Int) < len)) := Lib.hid (by
          have hf := hfar.out
          rw [← he7.out, ← he6.out]
          by_cases h5 : e5 = 0
          · subst h5
            have hf := hf.2 rfl
            by_cases hdl : (M : Int) < d
            · have : bd = true := by rw [← hbd.out, decide_eq_true hdl]
              rw [this, flt_yes, flt_ne (by decide)]
              exact ⟨fun _ => (tok_round hst.out (by rw [hGG.out]; exact hf.1 hdl)).1 (by decide), fun h => absurd h (by decide)⟩
            · have : bd = false := by rw [← hbd.out, decide_eq_false hdl]
              rw [this, flt_no]
              by_cases hl : most - (M : Int) < len
              · have : lt = true := by rw [← hlt.out, decide_eq_true hl]
                rw [this, flt_yes]
                exact ⟨fun _ => (tok_round hst.out (by rw [hGG.out]; exact (hf.2 (by omega)).1 hl)).1 (by decide), fun h => absurd h (by decide)⟩
              · have : lt = false := by rw [← hlt.out, decide_eq_false hl]
                rw [this, flt_no]
                exact ⟨fun h => absurd rfl h, fun _ => ⟨rfl, hdl, hl⟩⟩
          · rw [flt_ne h5, flt_ne h5]
            exact ⟨fun _ => (tok_round hst.out (by rw [hGG.out]; exact hf.1 h5)).1 h5, fun h => absurd h h5⟩)
        obtain ⟨a, c1, b, h1, h2, HI⟩ := HD.sta
        rw [hM.out] at HI h1
        have c0 := HI.cells
        have HQ := Lib.hid (rfault_any (g := g) (rg := rg) bd 2 HD)
        rw [he6.out] at HQ
        have hbd1 := hbd.out
        go_wp2_with fail
        refine HQ.out.mono ?_
        rintro e0 w5 ⟨_, rfl, H5⟩
        clear HQ HD HI c0 hbd1 hbd
        obtain ⟨a, c1, b, h1, h2, HI⟩ := H5.sta
        rw [hM.out] at HI h1
        clear H5
        go_upto_region 18 with (fail)
        refine wp_region_calm (fun w1 => Own w0 w1 (blk g (.cells #[.pointer (some ⟨rg, 0, none⟩), .slice a M c1, .int .i64 most, .int .i64 e6, .bool b] 67) :: slc 5 1 (.slice a M c1) M (bcells out1) :: RRdr rg s n5 :: PS)) 13 (by kernel_rfl) (by kernel_rfl) HI.drew ?_
        simp only [List.take_succ_cons, List.take_zero, List.drop_succ_cons, List.drop_zero]
        repeat
          first
          | (refine calm_value (v := ?_) (by decide) rfl (fun σ w1 hS => ?_) ?_
             rotate_left
             · have c0 := hS.cells
               first | (go_simp; rfl) | rfl
             simp only [Act.put, List.setIfInBounds_toArray, List.set_cons_zero, List.set_cons_succ])
          | (refine calm_skip (by decide) rfl ?_
             simp only [Act.put, List.setIfInBounds_toArray, List.set_cons_zero, List.set_cons_succ])
        refine calm_nil ?_
        intro wd3 HD
        rw [hlt.out]
        clear HI
        have HQ := Lib.hid (rfault_any (g := g) (rg := rg) lt 12 (HD.unsta hM.out.symm))
        rw [he7.out] at HQ
        go_wp2_with fail
        refine HQ.out.mono ?_
        rintro e0 w6 ⟨_, rfl, H6⟩
        clear HQ HD hlt he6 he7 h1 h2
        by_cases he70 : e7 = 0
        case neg =>
          have heb : (e7 == 0) = false := by simp [he70]
          have hfin := Lib.hid (hend.out.1 he70)
          replace he70 := Lib.hid he70
          clear hend hfar hst hGG
          have hlI : (0 : Int) < len := by omega
          go_wp2_with fail
          go_loopw [16] (fun v16 wx => v16 = .int .i64 0 ∧ Own w0 wx (Sta g rg s n5 out1 most e7 :: PS)) (fun _ _ => 0)
          case atStart => exact ⟨rfl, H6⟩
          case round =>
            clear H6
            obtain ⟨rfl, H6⟩ := hrel
            have ce := H6.sta_e
            go_wp2
            go_roundw
            case rel => exact ⟨out1, n5, e7, by rw [hM.out]; exact ho, hf3', Lib.hid ⟨fun h => absurd h he70.out, fun _ => hfin.out⟩, H6⟩
            case measure => rw [hmz.out, tmeas_sta H6, if_neg he70.out]; have := hmN.out; omega
        subst he70
        obtain ⟨rfl, hb1, hb2⟩ := hend.out.2 rfl
        have hfin := Lib.hid (((tok_round hst.out (by rw [hGG.out]; exact ((hfar.out.2 rfl).2 (by omega)).2 (by omega))).2 rfl).1 _ rfl)
        clear hend hfar hst hGG
        obtain ⟨dd, rfl⟩ : ∃ j : Nat, d = j := ⟨d.toNat, by omega⟩
        obtain ⟨nn, rfl⟩ : ∃ j : Nat, len = j := ⟨len.toNat, by omega⟩
        simp only [Int.toNat_natCast] at hfin
        have hdd1 : 1 ≤ dd := by omega
        have hnn1 : 1 ≤ nn := by omega
        have hd2 : dd ≤ M := by omega
        have hnM : (M : Int) + nn ≤ most := by omega
        clear hb1 hb2 hd0 hl0 hv0 hv1 hvb hv3 hk0 hk1 hd hlen
        go_wp2_with fail
        go_loopw [16] (fun v16 wx => ∃ j : Nat, v16 = .int .i64 j ∧ j ≤ nn ∧ Own w0 wx (Sta g rg s n5 (copyN dd out1 j) most 0 :: PS)) (fun v16 _ => nn - (intOf v16).toNat)
        case atStart => exact ⟨0, by go_num, by omega, H6⟩
        case round =>
          clear H6
          obtain ⟨j, rfl, hj, H⟩ := hrel
          have ce := H.sta_e
          by_cases hjm : j < nn
          case neg =>
            obtain rfl : j = nn := by omega
            have hjI : ¬ (j : Int) < (j : Int) := by omega
            have hcl : (copyN dd out1 j).length = M + j := by rw [copyN_length, hM.out]
            go_wp2_with fail
            go_roundw
            case rel => exact ⟨copyN dd out1 j, n5, 0, by rw [hcl]; omega, hf3', hfin, H⟩
            case measure => rw [hmz.out, tmeas_sta H, if_pos rfl, hcl]; have := hmN.out; omega
          have hjI : (j : Int) < (nn : Int) := by omega
          obtain ⟨N, hN⟩ : ∃ N, Hid (M + j = N) := ⟨_, rfl⟩
          have hcl : (copyN dd out1 j).length = N := by rw [copyN_length, hM.out, hN.out]
          have hNb : N + 1 ≤ 1000000 := by have := hN.out; omega
          obtain ⟨q, hq⟩ : ∃ q, Hid (N - dd = q) := ⟨_, rfl⟩
          have hdN : dd ≤ N := by have := hN.out; omega
          have hqI : (N : Int) - (dd : Int) = (q : Int) := by have := hq.out; omega
          have hqN : q < N := by have := hq.out; omega
          have hqNI : (q : Int) < (N : Int) := by omega
          obtain ⟨x, hx⟩ : ∃ x, (copyN dd out1 j)[q]? = some x := ⟨_, List.getElem?_eq_getElem (by omega)⟩
          have hnx : Hid (copyN dd out1 (j + 1) = copyN dd out1 j ++ [x]) := Lib.hid (by
            rw [copyN, hcl, hq.out, List.getD_eq_getElem?_getD, hx]; rfl)
          have HX := Lib.hid (bcells_get hx)
          clear hx
          obtain ⟨OJ, hOJ⟩ : ∃ OJ, Hid (copyN dd out1 j = OJ) := ⟨_, rfl⟩
          rw [hOJ.out] at H HX hnx hcl
          obtain ⟨a, c1, b, h1, h2, HI⟩ := H.sta
          rw [hcl] at HI h1
          obtain ⟨gb, cc, hgb, hg1, hg2, -⟩ := (HI.front 1 rfl).at (by rw [bcells_length, hcl]; omega)
          cases hgb
          replace hcl := Lib.hid hcl
          have hw2 : IntKind.i64.wrap (q : Int) = q := IntWalk.i64_in _ ⟨by omega, by omega⟩
          have hcell : ∀ (w1 : World) (qs : List Piece), Own w0 w1 (blk g (.cells #[.pointer (some ⟨rg, 0, none⟩), .slice (some ⟨gb, 0, none⟩) N c1, .int .i64 most, .int .i64 0, .bool b] 67) :: slc 5 1 (.slice (some ⟨gb, 0, none⟩) N c1) N (bcells OJ) :: qs) → w1.cell? ⟨gb, q, none⟩ = some (.int .u8 x) := fun w1 qs h => by
            have h3 := (h.front 1 rfl).rd.cell HX.out
            rwa [Nat.zero_add] at h3
          replace hcell := Lib.hid hcell
          clear H
          go_upto_region 22 with (fail)
          clear ce
          refine wp_region_pres (fun σ w1 => Own w0 w1 (newR (.cells #[.int .u8 x] 5) 1 (σ 18) ++ (blk g (.cells #[.pointer (some ⟨rg, 0, none⟩), .slice (some ⟨gb, 0, none⟩) N c1, .int .i64 most, .int .i64 0, .bool b] 67) :: slc 5 1 (.slice (some ⟨gb, 0, none⟩) N c1) N (bcells OJ) :: RRdr rg s n5 :: PS))) 19 [18] [0] (by kernel_rfl) (by kernel_rfl) (by kernel_rfl) (by kernel_rfl) (fun _ _ d _ _ h => by cases d <;> exact h) ⟨_, _, rfl, fun w => (by first | rfl | (go_simp; rfl)), rfl⟩ HI.drew ?_
          simp only [List.take_succ_cons, List.take_zero, List.drop_succ_cons, List.drop_zero]
          repeat
            first
            | (refine calm_value (v := ?_) (by decide) rfl (fun σ w1 hS => ?_) ?_
               rotate_left
               · have c0 := hS.skip.cells; have c3 := hcell.out _ _ hS.skip
                 first | (go_simp; rfl) | rfl
               simp only [Act.put, List.setIfInBounds_toArray, List.set_cons_zero, List.set_cons_succ])
            | (refine calm_skip (by decide) rfl ?_
               simp only [Act.put, List.setIfInBounds_toArray, List.set_cons_zero, List.set_cons_succ])
          refine calm_row (by decide) (fun w1 => (by go_simp)) ?_
          refine calm_nil ?_
          intro σ wd hσ HD
          obtain ⟨vn, hvn⟩ := Option.isSome_iff_exists.1 (hσ 18 (by decide))
          rw [hvn] at HD
          obtain ⟨g2, rfl, HN⟩ := HD.newr
          clear HD HI hcell
          simp only [putNew, List.foldl_cons, List.foldl_nil, hvn]
          simp only [Act.put, List.setIfInBounds_toArray, List.set_cons_zero, List.set_cons_succ, List.getElem?_cons_succ, List.getElem?_cons_zero, Option.bind_some, Option.getD_some]
          have hrow := (HN.slc_mk (xs := [.int .u8 x]) (n := 1) (size := 1) rfl (Nat.le_refl _) (by decide) rfl rfl).rd
          have H3 := HN.drop.front 1 rfl
          clear HN hσ hvn
          go_wp2_with (first
            | (at_builtin; refine wpList_append_sep rfl _ _ rfl Try.underlying54 u8Info rfl (by decide) rfl H3 hrow (by simp [Value.oneCell']) (by omega) (by omega) ?_; clear H3 hrow; intro v' w' H; obtain ⟨a', c', rfl, h1', h2'⟩ := H.rd.shape)
            | (refine wpList_store_slice rfl _ _ rfl rfl (H.front 1 rfl) rfl (by kernel_rfl) (by simp) ?_; clear H; intro w2 H))
          have hlen : N + 1 = (OJ ++ [x]).length := by rw [List.length_append, hcl.out]; rfl
          have H4 : Own w0 w2 (Sta g rg s n5 (copyN dd out1 (j + 1)) most 0 :: PS) := by
            rw [hnx.out]
            exact Own.unsta (by rw [← bcells_snoc]; exact H) hlen
          clear H
          go_roundw
          case rel => exact ⟨j + 1, by go_num, by omega, H4⟩
          case measure => simp [intOf]; omega
end Go.Proofs.Ytpbodonmiepilaa
/- flate: the walk of the document's fixed codes. -/
namespace Go.Proofs.Ytpbodonmiepilaa
open Go.RowKit

theorem fixL_get : ∀ i : Fin 288, fixL.getD i.1 0 = if i.1 < 144 then 8 else if i.1 < 256 then 9 else if i.1 < 280 then 7 else 8 := by decide +kernel
theorem fixL_take (k : Nat) (h : k < 288) : fixL.take (k + 1) = fixL.take k ++ [fixL.getD k 0] := by
  rw [List.take_add_one, getD_get (by rw [fixL_ok.1]; exact h)]; rfl
theorem fixD_take (k : Nat) (h : k < 32) : fixD.take (k + 1) = fixD.take k ++ [5] := by
  rw [List.take_add_one, getD_get (by rw [fixD_ok.1]; exact h), (show ∀ i : Fin 32, fixD.getD i.1 0 = 5 by decide +kernel) ⟨k, h⟩]; rfl
set_option maxRecDepth 100000 in
set_option maxHeartbeats 1600000 in
theorem rfixed_any (w : World) : Calls Try.prog 43 #[] w (Ret fun r w' => ∃ v u, r = .tuple #[v, u] ∧ Own w w' [slc 3 1 u 32 (nums fixD), slc 3 1 v 288 (nums fixL)]) := by
  have H := (Own.start w).nil 3 1
  go_enter Try.func43, Try.ntmps43
  go_wp2_with fail
  go_loopw [2, 4] (fun s2 s4 wx => ∃ k : Nat, s4 = .int .i64 k ∧ k ≤ 288 ∧ Own w wx [slc 3 1 s2 k (nums (fixL.take k))]) (fun _ s4 _ => 288 - (intOf s4).toNat)
  case atStart => exact ⟨0, by go_num, by omega, H⟩
  case round =>
    clear H
    obtain ⟨k, rfl, hk, H⟩ := hrel
    obtain ⟨a2, c2, rfl, -⟩ := H.rd.shape
    by_cases hlt : k < 288
    · have hI : (k : Int) < 288 := by omega
      have hg := fixL_get ⟨k, hlt⟩
      have ht := fixL_take k hlt
      simp only at hg
      have hn : ∀ n : Int, fixL.getD k 0 = n → Hid (nums (fixL.take k) ++ [.int .i64 n] = nums (fixL.take (k + 1))) := fun n h => Lib.hid (by rw [ht, h]; simp [nums])
      have hw : IntKind.i64.wrap ((k : Int) + 1) = (k : Int) + 1 := IntWalk.i64_in _ ⟨by omega, by omega⟩
      have fin : ∀ (n : Int), fixL.getD k 0 = n → n = 8 ∨ n = 9 ∨ n = 7 := by intro n h; rw [hg] at h; split at h <;> (try split at h) <;> (try split at h) <;> omega
      clear fin
      by_cases h1 : k < 144
      case' pos =>
        rw [if_pos h1] at hg
        have HN := hn 8 hg
        have e1 : ¬ 144 ≤ (k : Int) := by omega
        have e2 : ¬ 256 ≤ (k : Int) := by omega
      case' neg =>
        rw [if_neg h1] at hg
        have e1 : 144 ≤ (k : Int) := by omega
        by_cases h2 : k < 256
        case' pos =>
          rw [if_pos h2] at hg
          have HN := hn 9 hg
          have e2 : (k : Int) < 256 := by omega
        case' neg =>
          rw [if_neg h2] at hg
          have e2 : ¬ (k : Int) < 256 := by omega
          by_cases h3 : k < 280
          case' pos =>
            rw [if_pos h3] at hg
            have HN := hn 7 hg
            have e3 : (k : Int) < 280 := by omega
          case' neg =>
            rw [if_neg h3] at hg
            have HN := hn 8 hg
            have e3 : ¬ (k : Int) < 280 := by omega
      all_goals
        clear hg ht hn
        go_wp2_with (at_builtin; refine wpList_append_one rfl _ _ rfl Try.underlying22 intInfo rfl (by decide) rfl H (news := [.int .i64 _]) rfl rfl rfl (by simp [Value.oneCell']) (by omega) (by omega) ?_; clear H; intro v' w' H; rw [HN.out] at H; obtain ⟨a4, c4, rfl, -⟩ := H.rd.shape)
        go_roundw
        case rel => exact ⟨k + 1, by go_num, by omega, H⟩
        case measure => simp [intOf]; omega
    · obtain rfl : k = 288 := by omega
      have hI : ¬ (((288 : Nat) : Int) < 288) := by omega
      rw [List.take_of_length_le (by rw [fixL_ok.1]; exact Nat.le_refl _)] at H
      replace H := H.nil 3 1
      go_wp2_with fail
      go_loopw [3, 6] (fun s3 s6 wx => ∃ k : Nat, s6 = .int .i64 k ∧ k ≤ 32 ∧ Own w wx [slc 3 1 s3 k (nums (fixD.take k)), slc 3 1 (.slice a2 288 c2) 288 (nums fixL)]) (fun _ s6 _ => 32 - (intOf s6).toNat)
      case atStart => exact ⟨0, by go_num, by omega, H⟩
      case round =>
        clear H hk
        obtain ⟨k, rfl, hk, H⟩ := hrel
        obtain ⟨a3, c3, rfl, -⟩ := H.rd.shape
        by_cases hlt : k < 32
        · have hI : (k : Int) < 32 := by omega
          have HN : Hid (nums (fixD.take k) ++ [.int .i64 5] = nums (fixD.take (k + 1))) := Lib.hid (by rw [fixD_take k hlt]; simp [nums])
          go_wp2_with (at_builtin; refine wpList_append_one rfl _ _ rfl Try.underlying22 intInfo rfl (by decide) rfl H (news := [.int .i64 5]) rfl rfl rfl (by simp [Value.oneCell']) (by omega) (by omega) ?_; clear H; intro v' w' H; rw [HN.out] at H; obtain ⟨a4, c4, rfl, -⟩ := H.rd.shape)
          go_roundw
          case rel => exact ⟨k + 1, by go_num, by omega, H⟩
          case measure => simp [intOf]; omega
        · obtain rfl : k = 32 := by omega
          have hI : ¬ (((32 : Nat) : Int) < 32) := by omega
          rw [List.take_of_length_le (by rw [fixD_ok.1]; exact Nat.le_refl _)] at H
          go_wp2_with fail
          go_ret2
          exact ⟨_, rfl, _, _, rfl, H⟩
end Go.Proofs.Ytpbodonmiepilaa
/- inflate, the document's: the walks of Go, Inflate. -/
namespace Go.Proofs.Ytpbodonmiepilaa
open Go.RowKit

theorem Own.sta_n {w0 w : World} {ps : List Piece} {g rg n : Nat} {s : ByteArray} {out : List Int} {most e : Int} (H : Own w0 w (Sta g rg s n out most e :: ps)) : w.cell? ⟨rg, 1, none⟩ = some (.int .i64 n) := by
  obtain ⟨a, c, b, _, _, H⟩ := H.sta
  have H2 := H.front 2 rfl
  unfold RRdr at H2
  rw [H2.cells]; rfl
theorem imeas_sta {w0 w : World} {ps : List Piece} {z g rg n : Nat} {s : ByteArray} {out : List Int} {most e a : Int} (H : Own w0 w (Sta g rg s n out most e :: ps)) : imeas z (.int .i64 a) ((w.cell? ⟨g, 3, none⟩).getD undef) ((w.cell? ⟨rg, 1, none⟩).getD undef) = if a = 0 ∧ e = 0 then 8 * z + 1 - n else 0 := by
  unfold imeas
  rw [H.sta_n, H.sta_e]
  rfl
/-- What Go leaves. -/
def RGoP (w : World) (s : ByteArray) (B : List Bool) (m : Int) (r : Value) (w' : World) : Prop :=
  ∃ (g rg n : Nat) (out : List Int) (e : Int), r = .pointer (some ⟨g, 0, none⟩) ∧ n ≤ 8 * s.size ∧ (out.length : Int) ≤ m ∧ (e ≠ 0 → Faults B m Inf.init e) ∧ (e = 0 → TokEnd B m true Inf.init out n 0) ∧ Own w w' [Sta g rg s n out m e]
set_option maxRecDepth 100000 in
set_option maxHeartbeats 3200000 in
theorem rgo_any (w : World) (s : ByteArray) (most : Int) (hm : most ≤ 1000000) (hs : s.size ≤ 1000000) :
    Calls Try.prog 29 #[.string s, .int .i64 most] w (Ret (RGoP w s (textBits s) (max most 0))) := by
  obtain ⟨B, hB⟩ : ∃ B, Hid (textBits s = B) := ⟨_, rfl⟩
  have hBl : Hid (B.length = 8 * s.size) := Lib.hid (by rw [← hB.out, textBits_length])
  obtain ⟨m, hmm, hm0, hm1⟩ : ∃ m, Hid (max most 0 = m) ∧ 0 ≤ m ∧ m ≤ 1000000 := ⟨_, Lib.hid rfl, by omega, by omega⟩
  rw [hB.out, hmm.out]
  go_enter Try.func29, Try.ntmps29
  go_upto_region 1 with (fail)
  go_cut [5] (fun s5 wx => ∃ g rg : Nat, s5 = .pointer (some ⟨g, 0, none⟩) ∧ Own w wx [Sta g rg s 0 [] m 0])
  case first =>
    have H1 := ((Own.start w).alloc (.cells #[.string s, .int .i64 0] 69)).nil 5 1
    have H2 := H1.alloc (.cells #[.pointer (some ⟨w.heap.size, 0, none⟩), .slice none 0 0, .int .i64 m, .int .i64 0, .bool false] 67)
    have H3 := Own.unsta (out := []) (n := 0) (g := (w.alloc (.cells #[.string s, .int .i64 0] 69)).heap.size) (rg := w.heap.size) H2 rfl
    rw [show (w.alloc (.cells #[.string s, .int .i64 0] 69)).heap.size = w.heap.size + 1 from Array.size_push ..] at H3
    replace H3 := Lib.hid H3
    clear H1 H2
    by_cases hneg : most < 0
    · obtain rfl : m = 0 := by have := hmm.out; omega
      have hneg2 : ¬ 0 ≤ most := by omega
      go_wp2
      go_meet
      exact ⟨_, _, rfl, H3.out⟩
    · have hneg2 : 0 ≤ most := by omega
      obtain rfl : m = most := by have := hmm.out; omega
      go_wp2
      go_meet
      exact ⟨_, _, rfl, H3.out⟩
  case rest =>
  obtain ⟨g, rg, rfl, H⟩ := hcut
  have hst : Hid (TokEnd B m false Inf.init [] 0 0) := Lib.hid ⟨fun _ => .refl _, fun h => absurd rfl h⟩
  go_wp2_with fail
  go_loopw [6] (fun s6 wx => ∃ (last : Bool) (a : Int) (out : List Int) (n : Nat) (e : Int), s6 = .int .i64 a ∧ Hid (e = 0 → (a = 0 ∧ last = false ∨ a = 1 ∧ last = true)) ∧ (out.length : Int) ≤ m ∧ n ≤ 8 * s.size ∧ Hid (TokEnd B m last Inf.init out n e) ∧ Own w wx [Sta g rg s n out m e]) (fun s6 wx => imeas s.size s6 ((wx.cell? ⟨g, 3, none⟩).getD undef) ((wx.cell? ⟨rg, 1, none⟩).getD undef))
  case atStart => exact ⟨false, 0, [], 0, 0, rfl, Lib.hid fun _ => .inl ⟨rfl, rfl⟩, by simpa using hm0, by omega, hst, H⟩
  case round =>
    clear H hst
    obtain ⟨last, a, out, n, e, rfl, hla, ho, hn, hst, H⟩ := hrel
    have ce := H.sta_e
    have hmz : Hid (imeas s.size (.int .i64 a) ((wr.cell? ⟨g, 3, none⟩).getD undef) ((wr.cell? ⟨rg, 1, none⟩).getD undef) = if a = 0 ∧ e = 0 then 8 * s.size + 1 - n else 0) := Lib.hid (imeas_sta H)
    by_cases hx : a = 0 ∧ e = 0
    case neg =>
      have hfin : Hid (RGoP w s B m (.pointer (some ⟨g, 0, none⟩)) wr) := Lib.hid (by
        refine ⟨g, rg, n, out, e, rfl, hn, ho, hst.out.2, fun he => ?_, H⟩
        subst he
        rcases hla.out rfl with h | h
        · exact absurd ⟨h.1, rfl⟩ hx
        · rw [← h.2]; exact hst.out)
      clear hmz hst hla
      by_cases ha : a = 0
      · have hab : (a == 0) = true := by simp [ha]
        have heb2 : (e == 0) = false := by simp; intro h; exact hx ⟨ha, h⟩
        clear ha hx
        go_wp2
        go_ret
        exact ⟨_, rfl, hfin.out⟩
      · have hab : (a == 0) = false := by simp [ha]
        clear ha hx
        go_wp2
        go_ret
        exact ⟨_, rfl, hfin.out⟩
    obtain ⟨rfl, rfl⟩ := hx
    obtain rfl : last = false := by have := hla.out rfl; simpa using this
    replace hmz := Lib.hid (hmz.out.trans (if_pos ⟨rfl, rfl⟩))
    clear hla
    have HT := rtk_any 1 (by omega) H hs hn
    rw [hB.out] at HT
    replace HT := Lib.hid HT
    go_wp2_with fail
    refine HT.out.mono ?_
    rintro e0 w1 ⟨_, rfl, a, n1, e1, rfl, ha0, ha1, hn1, -, hg1, H1⟩
    replace hg1 := Lib.hid (hg1 trivial)
    clear HT H ce
    have HT := rtk_any 2 (by omega) H1 hs hn1
    rw [hB.out] at HT
    replace HT := Lib.hid HT
    go_wp2_with fail
    refine HT.out.mono ?_
    rintro e0 w2 ⟨_, rfl, k, n2, e2, rfl, hk0, hk1, hn2, he2, hg2, H2⟩
    have hht := Lib.hid (head_takes (most := m) (out := out) hg1.out (fun h => (he2 h).1) hg2)
    clear HT H1 hg1 he2 hg2
    obtain ⟨b3, hb3⟩ : ∃ b, Hid ((k == 3) = b) := ⟨_, rfl⟩
    obtain ⟨e3, he3⟩ : ∃ x, Hid (fltF b3 2 e2 = x) := ⟨_, rfl⟩
    have HQ := Lib.hid (rfault_any (g := g) (rg := rg) b3 2 H2)
    rw [he3.out] at HQ
    have hb31 := hb3.out
    go_wp2_with fail
    refine HQ.out.mono ?_
    rintro e0 w3 ⟨_, rfl, H3⟩
    clear HQ H2 hb31
    have ce := H3.sta_e
    by_cases he : e3 = 0
    case neg =>
      have heb : (e3 != 0) = true := by simp [he]
      have heb2 : (e3 == 0) = false := by simp [he]
      have hfl : Faults B m Inf.init e3 := by
        by_cases h2 : e2 = 0
        · obtain ⟨-, -, -, hG⟩ := hht.out.2 h2
          cases b3 with
          | true =>
            have : e3 = 2 := by rw [← he3.out, h2, flt_yes]
            have hk3 : k = 3 := by simpa using hb3.out
            have hgh : GotR (headG B m ⟨n, out, none, false⟩) Inf.init 0 2 := by
              rw [hG, if_neg (by omega), if_neg (by omega), if_neg (by omega)]
              rfl
            rw [this]
            exact (head_round hst.out hgh).1 (by decide)
          | false => rw [← he3.out, flt_no] at he; exact absurd h2 he
        · have : e3 = e2 := by rw [← he3.out, flt_ne h2]
          rw [this]
          exact (head_round hst.out (hht.out.1 h2)).1 h2
      have hfin : Hid (RGoP w s B m (.pointer (some ⟨g, 0, none⟩)) w3) := Lib.hid ⟨g, rg, n2, out, e3, rfl, hn2, ho, fun _ => hfl, fun h => absurd h he, H3⟩
      clear hht hmz hst he hb3 he3 hfl
      go_wp2
      go_ret
      exact ⟨_, rfl, hfin.out⟩
    subst he
    have he20 : e2 = 0 := by
      by_cases h2 : e2 = 0
      · exact h2
      · have h := he3.out
        rw [flt_ne h2] at h
        exact h
    have hk3 : k ≠ 3 := fun h => by
      have h1 := hb3.out
      have h2 := he3.out
      have : b3 = true := by rw [← h1, h]; rfl
      rw [this, he20, flt_yes] at h2
      cases h2
    clear hb3 he3
    obtain ⟨hab, hkb, hn3, hG⟩ := hht.out.2 he20
    clear he20
    replace hG := Lib.hid hG
    replace hn3 := Lib.hid hn3
    clear hht
    obtain ⟨la, hla⟩ : ∃ la, Hid (decide (a = 1) = la) := ⟨_, rfl⟩
    have hla2 : Hid (a = 0 ∧ la = false ∨ a = 1 ∧ la = true) := Lib.hid (by
      rw [← hla.out]
      rcases (show a = 0 ∨ a = 1 by omega) with rfl | rfl
      · exact .inl ⟨rfl, rfl⟩
      · exact .inr ⟨rfl, rfl⟩)
    rw [hla.out] at hG
    clear hla
    by_cases hq0 : k = 0
    · subst hq0
      have hG0 := hG.out
      rw [if_pos rfl] at hG0
      replace hG := Lib.hid hG0
      clear hG0
      have HS := rstored_any ⟨hm0, hm1⟩ ho hs hn2 H3
      rw [hB.out] at HS
      replace HS := Lib.hid HS
      go_wp2_with fail
      refine HS.out.mono ?_
      rintro e0 w4 ⟨_, rfl, out2, n4, e4, hn4, ho2, hg4, H4⟩
      have hgh : GotR (headG B m ⟨n, out, none, false⟩) ⟨n4, out2, none, la⟩ n4 e4 := by
        rw [hG.out]
        by_cases h4 : e4 = 0
        · subst h4
          rw [gotR_ok hg4 stored_nbad, Got.bind_ok]
          exact ⟨rfl, rfl, rfl⟩
        · exact gotR_bind hg4 h4
      have hr := head_round hst.out hgh
      have hst2 : Hid (TokEnd B m la Inf.init out2 n4 e4) := Lib.hid ⟨hr.2, hr.1⟩
      have hle : Hid (e4 = 0 → n < n4) := Lib.hid (fun h4 => by
        subst h4
        have := (goes_stored B m out n2).le _ _ (gotR_ok hg4 stored_nbad)
        have := hn3.out
        omega)
      clear HS H3 hgh hr hst hg4 hG ce
      go_wp2_with fail
      go_roundw
      case rel => exact ⟨la, a, out2, n4, e4, rfl, Lib.hid fun _ => hla2.out, ho2, hn4, hst2, H4⟩
      case measure =>
        rw [hmz.out, imeas_sta H4]
        split
        · next h => have := hle.out h.2; omega
        · omega
    by_cases hq1 : k = 1
    · subst hq1
      have hgh : GotR (headG B m ⟨n, out, none, false⟩) ⟨n2, out, some fixTab, la⟩ n2 0 := by
        rw [hG.out, if_neg (by decide), if_pos rfl]
        exact ⟨rfl, rfl, rfl⟩
      have hst2 := Lib.hid ((head_round hst.out hgh).2 rfl)
      clear hgh hG hst
      have HF := Lib.hid (rfixed_any w3)
      go_wp2_with fail
      refine HF.out.mono ?_
      rintro e0 w4 ⟨_, rfl, va, vb, rfl, HX⟩
      have H4 : Own w w4 (Sta g rg s n2 out m 0 :: slc 3 1 vb 32 (nums fixD) :: slc 3 1 va 288 (nums fixL) :: []) := (H3.join HX).front 2 rfl
      clear HF HX H3 ce
      have HT := Lib.hid (rtokens_any (ps := slc 3 1 vb 32 (nums fixD) :: slc 3 1 va 288 (nums fixL) :: []) (L := fixL) (D := fixD) (lv := va) (dv := vb) la (fun w' h => by rw [fixL_ok.1]; exact (h.front 1 rfl).rd) (fun w' h => by rw [fixD_ok.1]; exact h.rd) fix_terr.1 fix_terr.2 ⟨hm0, hm1⟩ ho hs hn2 H4)
      obtain ⟨va1, va2, rfl, -⟩ := (H4.front 2 rfl).rd.shape
      obtain ⟨vb1, vb2, rfl, -⟩ := (H4.front 1 rfl).rd.shape
      go_wp2_with fail
      refine HT.out.mono ?_
      rintro e0 w5 ⟨_, rfl, out2, n4, e4, ho2, hn4, hte, H5⟩
      rw [hB.out, ← fixTab_eq] at hte
      have hst3 : Hid (TokEnd B m la Inf.init out2 n4 e4) := Lib.hid (hte.from hst2.out)
      have hle : Hid (e4 = 0 → n < n4) := Lib.hid (fun h4 => by
        subst h4
        have h := hte.mono (by rw [hBl.out]; exact hn2)
        have h : n2 ≤ n4 := h
        have := hn3.out
        omega)
      clear HT H4 hte hst2
      have H6 : Own w w5 [Sta g rg s n4 out2 m e4] := ((H5.front 1 rfl).drop.front 1 rfl).drop
      clear H5
      go_wp2_with fail
      go_roundw
      case rel => exact ⟨la, a, out2, n4, e4, rfl, Lib.hid fun _ => hla2.out, ho2, hn4, hst3, H6⟩
      case measure =>
        rw [hmz.out, imeas_sta H6]
        split
        · next h => have := hle.out h.2; omega
        · omega
    · obtain rfl : k = 2 := by omega
      have hG0 := hG.out
      rw [if_neg (by decide), if_neg (by decide), if_pos rfl] at hG0
      replace hG := Lib.hid hG0
      clear hG0
      have HD := rtold_any hs hn2 H3
      rw [hB.out] at HD
      replace HD := Lib.hid HD
      go_wp2_with fail
      refine HD.out.mono ?_
      rintro e0 w4 ⟨_, rfl, va, vb, T, n4, e4, rfl, hn4, hg4, hd1, hd2⟩
      replace hd1 := Lib.hid hd1
      replace hd2 := Lib.hid hd2
      clear HD H3 ce
      have hgh : GotR (headG B m ⟨n, out, none, false⟩) ⟨n4, out, some T, la⟩ n4 e4 := by
        rw [hG.out]
        by_cases h4 : e4 = 0
        · subst h4
          rw [gotR_ok hg4 codes_nbad, Got.bind_ok]
          exact ⟨rfl, rfl, rfl⟩
        · exact gotR_bind hg4 h4
      have hr := Lib.hid (head_round hst.out hgh)
      have hle0 : Hid (e4 = 0 → n < n4) := Lib.hid (fun h4 => by
        subst h4
        have := (goes_codes B n2).le _ _ (gotR_ok hg4 codes_nbad)
        have := hn3.out
        omega)
      clear hgh hst hg4 hG
      by_cases h4 : e4 = 0
      case neg =>
        have H4 := hd1.out h4
        have ce := H4.sta_e
        have hst3 : Hid (TokEnd B m la Inf.init out n4 e4) := Lib.hid ⟨fun h => absurd h h4, hr.out.1⟩
        have h4b : (e4 == 0) = false := by simp [h4]
        replace h4 := Lib.hid h4
        clear hr hd1 hd2
        go_wp2_with fail
        go_roundw
        case rel => exact ⟨la, a, out, n4, e4, rfl, Lib.hid fun _ => hla2.out, ho, hn4, hst3, H4⟩
        case measure =>
          rw [hmz.out, imeas_sta H4, if_neg (fun h => h4.out h.2)]
          omega
      subst h4
      obtain ⟨hT1, hT2, q, H4, hrd⟩ := hd2.out rfl
      have ce := H4.sta_e
      have hle1 := hle0.out rfl
      have hst2 := Lib.hid (hr.out.2 rfl)
      clear hd1 hd2 hr hle0
      have HT := Lib.hid (rtokens_any (ps := [q]) (L := T.1) (D := T.2) (lv := va) (dv := vb) la (fun w' h => (hrd w' _ h).1) (fun w' h => (hrd w' _ h).2) hT1 hT2 ⟨hm0, hm1⟩ ho hs hn4 H4)
      obtain ⟨va1, va2, rfl, -⟩ := (hrd _ _ H4.drop).1.shape
      obtain ⟨vb1, vb2, rfl, -⟩ := (hrd _ _ H4.drop).2.shape
      clear hrd
      go_wp2_with fail
      refine HT.out.mono ?_
      rintro e0 w5 ⟨_, rfl, out2, n5, e5, ho2, hn5, hte, H5⟩
      rw [hB.out] at hte
      have hst3 : Hid (TokEnd B m la Inf.init out2 n5 e5) := Lib.hid (hte.from hst2.out)
      have hle : Hid (e5 = 0 → n < n5) := Lib.hid (fun h4 => by
        subst h4
        have h := hte.mono (by rw [hBl.out]; exact hn4)
        have h : n4 ≤ n5 := h
        omega)
      clear HT H4 hte hst2 ce
      have H6 : Own w w5 [Sta g rg s n5 out2 m e5] := (H5.front 1 rfl).drop
      clear H5
      go_wp2_with fail
      go_roundw
      case rel => exact ⟨la, a, out2, n5, e5, rfl, Lib.hid fun _ => hla2.out, ho2, hn5, hst3, H6⟩
      case measure =>
        rw [hmz.out, imeas_sta H6]
        split
        · next h => have := hle.out h.2; omega
        · omega
set_option maxRecDepth 100000 in
set_option maxHeartbeats 3200000 in
theorem rinflate_any (w : World) (s : ByteArray) (most : Int) (hm : most ≤ 1000000) (hs : s.size ≤ 1000000) :
    Calls Try.prog 16 #[.string s, .int .i64 most] w (Ret fun r w' => ∃ t u e, r = .tuple #[.string t, .int .i64 u, .int .i64 e] ∧ InfRes (textBits s) (max most 0) t u e ∧ Own w w' []) := by
  have HG := rgo_any w s most hm hs
  generalize max most 0 = m at *
  replace HG := Lib.hid HG
  go_enter Try.func16, Try.ntmps16
  go_wp2_with fail
  refine HG.out.mono ?_
  rintro e0 w1 ⟨_, rfl, g, rg, n, out, e, rfl, hn, ho, hf1, hf2, H⟩
  clear HG
  have ce := H.sta_e
  by_cases he : e = 0
  case neg =>
    have heb : (e != 0) = true := by simp [he]
    have heb2 : (e == 0) = false := by simp [he]
    have hfin := Lib.hid (infRes_err (hf1 he))
    clear he hf1 hf2
    go_upto_region 3 with (fail)
    refine wp_region_calm (fun w1 => Own w w1 [Sta g rg s n out m e]) 6 (by kernel_rfl) (by kernel_rfl) H.drew ?_
    simp only [List.take_succ_cons, List.take_zero, List.drop_succ_cons, List.drop_zero]
    repeat
      first
      | (refine calm_value (v := ?_) (by decide) rfl (fun σ w1 hS => ?_) ?_
         rotate_left
         · have ce := hS.sta_e
           first | (go_simp; rfl) | rfl
         simp only [Act.put, List.setIfInBounds_toArray, List.set_cons_zero, List.set_cons_succ])
      | (refine calm_skip (by decide) rfl ?_
         simp only [Act.put, List.setIfInBounds_toArray, List.set_cons_zero, List.set_cons_succ])
    refine calm_nil ?_
    intro wd HD
    go_wp2_with fail
    go_ret3
    exact ⟨_, rfl, ByteArray.empty, 0, e, rfl, hfin.out, HD.bare⟩
  subst he
  have hfin := Lib.hid (infRes_ok (hf2 rfl))
  clear hf1 hf2
  obtain ⟨q, hq⟩ : ∃ q, Hid (nbytes n = q) := ⟨_, rfl⟩
  rw [hq.out] at hfin
  have hqb : q ≤ 1000000 := by have := hq.out; unfold nbytes at this; omega
  have hzq : ((n : Int) + 7) / 8 = (q : Int) := by have := hq.out; unfold nbytes at this; omega
  have hzq2 : ((n : Int) + 7).tdiv 8 = (q : Int) := by rw [Int.tdiv_eq_ediv_of_nonneg (by omega)]; exact hzq
  have hw7 : IntKind.i64.wrap ((n : Int) + 7) = (n : Int) + 7 := IntWalk.i64_in _ ⟨by omega, by omega⟩
  have hwq : IntKind.i64.wrap (q : Int) = (q : Int) := IntWalk.i64_in _ ⟨by omega, by omega⟩
  obtain ⟨sa, sc, b, h1, h2, HI⟩ := H.sta
  obtain ⟨N, hN⟩ : ∃ N, Hid (out.length = N) := ⟨_, rfl⟩
  rw [hN.out] at HI
  obtain ⟨st, hst⟩ : ∃ st, Hid (strOfNums out = st) := ⟨_, rfl⟩
  rw [hst.out] at hfin
  have hcv : ∀ (w1 : World) (v : Value) (qs : List Piece), Own w w1 (blk g (.cells #[.pointer (some ⟨rg, 0, none⟩), .slice sa N sc, .int .i64 m, .int .i64 0, .bool b] 67) :: slc 5 1 v N (bcells out) :: qs) → (convert 54 9 v).run Try.prog w1 = .ok (.string st) w1 := fun w1 v qs h => by
    rw [← hst.out]
    exact run_string_sep (P := Try.prog) 54 9 Try.underlying54 Try.underlying5 Try.underlying9 (ns := out) (h.front 1 rfl).rd
  replace hcv := Lib.hid hcv
  clear H
  go_upto_region 4 with (fail)
  clear ce
  refine wp_region_calm (fun w1 => Own w w1 [blk g (.cells #[.pointer (some ⟨rg, 0, none⟩), .slice sa N sc, .int .i64 m, .int .i64 0, .bool b] 67), slc 5 1 (.slice sa N sc) N (bcells out), RRdr rg s n]) 16 (by kernel_rfl) (by kernel_rfl) HI.drew ?_
  simp only [List.take_succ_cons, List.take_zero, List.drop_succ_cons, List.drop_zero]
  repeat
    first
    | (refine calm_value (v := ?_) (by decide) rfl (fun σ w1 hS => ?_) ?_
       rotate_left
       · have c0 := hS.cells; have c1 := hcv.out _ _ _ hS; have c2 := (hS.front 2 rfl).cells
         first | (go_simp; rfl) | rfl
       simp only [Act.put, List.setIfInBounds_toArray, List.set_cons_zero, List.set_cons_succ])
    | (refine calm_skip (by decide) rfl ?_
       simp only [Act.put, List.setIfInBounds_toArray, List.set_cons_zero, List.set_cons_succ])
  refine calm_nil ?_
  intro wd HD
  go_wp2_with fail
  go_ret3
  exact ⟨_, rfl, st, q, 0, rfl, hfin.out, HD.bare⟩
/-- The answer is one. -/
theorem infRes_one {bs : List Bool} {most : Int} {t t' : ByteArray} {u u' e e' : Int} (h : InfRes bs most t u e) (h' : InfRes bs most t' u' e') : t' = t ∧ u' = u ∧ e' = e := by
  unfold InfRes at h h'
  cases hi : inflF bs most with
  | ok out n => rw [hi] at h h'; obtain ⟨rfl, rfl, rfl⟩ := h; exact h'
  | err e0 => rw [hi] at h h'; obtain ⟨rfl, rfl, rfl⟩ := h; exact h'
  | more => rw [hi] at h; exact absurd h id
end Go.Proofs.Ytpbodonmiepilaa
/- split: the walk of SplitWith. -/
namespace Go.Proofs.Ytpbodonmiepilaa
open Go.RowKit

/-- The document's error. -/
def wantF (right falls : Bool) (f : Int) : Int := if !right || (f == 0 && falls) then 1 else f
def rightF (N : Nat) (cs ks : List Int) : Bool := decide (0 < cs.length) && (decide (cs.length = ks.length) && decide (cs.getD (cs.length - 1) 0 = N))
def resE : Res → Int
  | .err e => e
  | .ok _ => 0
def resT : Res → ByteArray
  | .err _ => ⟨#[]⟩
  | .ok out => strOfNums out
theorem resVal_eq (r : Res) : resVal r = .tuple #[.string (resT r), .int .i64 (resE r)] := by cases r <;> rfl
/-- What With answers, said as the law says it. -/
structure WithOk (T : List Tok) (cs ks : List Int) (t : ByteArray) (e : Int) : Prop where
  val : withV T cs ks = .tuple #[.string t, .int .i64 e]
  err : e = wantF (rightF T.length cs ks) (wfalls T.length (cs.zip ks) 0) (resE (exp 2147483648 T []))
  none : e ≠ 0 → t = ⟨#[]⟩
  some : e = 0 → t.size ≤ 1000000 ∧ (resT (exp 2147483648 T [])).size ≤ 1000000 ∧ ∀ u n g, InfRes (textBits t) (max ((resT (exp 2147483648 T [])).size : Int) 0) u n g → u = resT (exp 2147483648 T []) ∧ n = t.size ∧ g = 0
theorem zip_last {cs ks : List Int} (h : cs.length = ks.length) : ∀ p, (cs.zip ks).getLast? = .some p → p.1 = cs.getD (cs.length - 1) 0 := by
  intro p hp
  rw [List.getLast?_eq_getElem?, List.length_zip, ← h, Nat.min_self, List.getElem?_zip_eq_some] at hp
  rw [List.getD_eq_getElem?_getD, hp.1]
  rfl
theorem with_ok (T : List Tok) (cs ks : List Int) (hT : T.length ≤ 3000) (hc : cs.length ≤ 20) : ∃ t e, WithOk T cs ks t e := by
  by_cases hA : cs.length = 0 ∨ cs.length ≠ ks.length ∨ cs.getD (cs.length - 1) 0 ≠ T.length
  · have hr : rightF T.length cs ks = false := by
      unfold rightF
      rcases hA with h | h | h
      · simp [h]
      · simp [h]
      · rw [show decide (cs.getD (cs.length - 1) 0 = (T.length : Int)) = false from decide_eq_false h]; simp
    refine ⟨⟨#[]⟩, 1, by unfold withV; rw [if_pos hA], by unfold wantF; rw [hr]; rfl, fun _ => rfl, fun h => absurd h (by decide)⟩
  have hr : rightF T.length cs ks = true := by
    unfold rightF
    have h1 : 0 < cs.length := by omega
    have h2 : cs.length = ks.length := by omega
    have h3 : cs.getD (cs.length - 1) 0 = T.length := Decidable.not_not.1 fun hh => hA (.inr (.inr hh))
    simp only [decide_eq_true h1, decide_eq_true h2, decide_eq_true h3, Bool.and_true]
  have h1 : 0 < cs.length := by omega
  have h2 : cs.length = ks.length := by omega
  have h3 : cs.getD (cs.length - 1) 0 = T.length := Decidable.not_not.1 fun hh => hA (.inr (.inr hh))
  cases hx : exp 2147483648 T [] with
  | err e0 =>
    refine ⟨⟨#[]⟩, e0, by unfold withV; rw [if_neg hA, hx], ?_, fun _ => rfl, fun h => ?_⟩
    · unfold wantF
      rw [hr, hx]
      have : ((e0 : Int) == 0) = false := by rcases exp_err2 T [] e0 hx with h | h <;> simp [h]
      simp only [resE, this]
      rfl
    · rcases exp_err2 T [] e0 hx with h' | h' <;> omega
  | ok out =>
    obtain ⟨hlen, hok⟩ := exp_len T [] out hx
    simp only [List.length_nil, Nat.zero_add] at hlen
    have htight := (exp_tight (m := 2147483648) (M := (out.length : Int)) (by omega) (by omega) T [] out hx (by simp) (Int.le_refl _)).1
    have hfn := wloop_falls T (cs.zip ks) 0 []
    cases hw : wloop T (cs.zip ks) 0 [] with
    | none =>
      rw [hw] at hfn
      refine ⟨⟨#[]⟩, 1, by unfold withV; rw [if_neg hA, hx, hw]; rfl, ?_, fun _ => rfl, fun h => absurd h (by decide)⟩
      unfold wantF
      rw [hr, hx, ← show (Option.none : Option (List Bool)).isNone = wfalls T.length (cs.zip ks) 0 from hfn]
      rfl
    | some R =>
      rw [hw] at hfn
      have hne : cs.zip ks ≠ [] := fun hh => by have := congrArg List.length hh; rw [List.length_zip, List.length_nil] at this; omega
      obtain ⟨hunp, hsz⟩ := wloop_unp (most := out.length) (fin := out) hok (by omega) (by omega) htight (cs.zip ks) 0 [] R (by omega) hne (fun p hp => by rw [zip_last h2 p hp]; exact h3) (pre_nil (Int.natCast_nonneg _)) hw
      have hzl : (cs.zip ks).length ≤ 20 := by rw [List.length_zip]; omega
      have hR : R.length ≤ 4000000 := by
        have := Nat.mul_le_mul hzl (show 48 * T.length + 15000 ≤ 159000 by omega)
        simp only [List.length_nil] at hsz
        omega
      refine ⟨textOf R, 0, by unfold withV; rw [if_neg hA, hx, hw]; rfl, ?_, fun h => absurd rfl h, fun _ => ⟨by rw [textOf_size]; unfold nbytes; omega, by rw [hx]; unfold resT; rw [strOfNums_size]; omega, fun u n g h => ?_⟩⟩
      · unfold wantF
        rw [hr, hx, ← show (Option.some R).isNone = wfalls T.length (cs.zip ks) 0 from hfn]
        rfl
      · rw [hx] at h ⊢
        simp only [resT] at h ⊢
        rw [strOfNums_size, Int.max_eq_left (by omega)] at h
        have hi := infl_text (behind := ByteArray.empty) rfl hunp
        rw [ByteArray.append_empty] at hi
        unfold InfRes at h
        rw [hi] at h
        obtain ⟨g1, g2, g3⟩ := h
        exact ⟨g1, by rw [g2, textOf_size], g3⟩
set_option maxRecDepth 100000 in
set_option maxHeartbeats 6400000 in
theorem lawwith_any {w : World} {tv cv kv : Value} {T0 : List Tok} {cs ks : List Int} (ht : Rd w 3 tv T0.length (rows tcell T0)) (hc : Rd w 1 cv cs.length (nums cs)) (hk : Rd w 1 kv ks.length (nums ks)) :
    Calls Try.prog 5 #[tv, cv, kv] w (Ret fun r w' => r = .bool true ∧ Own w w' []) := by
  obtain ⟨ta, tc, rfl, htc1, htc2⟩ := ht.shape
  obtain ⟨ca, cc, rfl, hcc1, hcc2⟩ := hc.shape
  obtain ⟨ka, kc, rfl, hkc1, hkc2⟩ := hk.shape
  have KA := Lib.hid awake47_any
  have H := Own.start w
  go_enter Try.func5, Try.ntmps5
  go_upto_if 21 with (fail)
  go_cut [0] (fun v0 wx => Own w wx [] ∧ ∃ (T : List Tok) (tc' : Nat), v0 = .slice ta T.length tc' ∧ T.length ≤ 300 ∧ Hid (Rd w 3 (.slice ta T.length tc') T.length (rows tcell T)))
  case first =>
    obtain ⟨N, hN⟩ : ∃ N, Hid (T0.length = N) := ⟨_, rfl⟩
    rw [hN.out] at ht htc1
    replace ht := Lib.hid ht
    rw [hN.out]
    by_cases h : 300 < N
    · have hI : (300 : Int) < (N : Int) := by omega
      have hI2 : (300 : Int) ≤ (tc : Int) := by omega
      have htk := ht.out.take (k := 300) (by omega)
      rw [rows_take tcell tcell_length] at htk
      have hl : (T0.take 300).length = 300 := by rw [List.length_take, hN.out]; omega
      have hfin : Hid (∃ (T : List Tok) (tc' : Nat), Value.slice ta 300 tc = .slice ta T.length tc' ∧ T.length ≤ 300 ∧ Hid (Rd w 3 (.slice ta T.length tc') T.length (rows tcell T))) := Lib.hid ⟨T0.take 300, tc, by rw [hl], by omega, Lib.hid (by rw [hl]; exact htk)⟩
      obtain ⟨b, o, c', e0, -⟩ := ht.out.some (by rw [rows_length tcell tcell_length, hN.out]; omega)
      cases e0
      clear htk hl h
      go_wp2
      go_meet
      exact ⟨H, hfin.out⟩
    · have hI : ¬ (300 : Int) < (N : Int) := by omega
      go_wp2
      go_meet
      exact ⟨H, T0, tc, by rw [hN.out], by rw [hN.out]; omega, Lib.hid (by rw [hN.out]; exact ht.out)⟩
  case rest =>
  clear ht htc1 htc2 H
  obtain ⟨H, T, tc', rfl, hT, hr⟩ := hcut
  obtain ⟨t, e, W⟩ : ∃ t e, cs.length ≤ 20 → WithOk T cs ks t e := by
    by_cases h : cs.length ≤ 20
    · obtain ⟨t, e, h'⟩ := with_ok T cs ks (by omega) h
      exact ⟨t, e, fun _ => h'⟩
    · exact ⟨⟨#[]⟩, 0, fun h' => absurd h' h⟩
  have kw : cs.length ≤ 20 → ks.length ≤ 20 → Calls Try.prog 14 #[.slice ta T.length tc', .slice ca cs.length cc, .slice ka ks.length kc] wc (Ret fun r w' => r = .tuple #[.string t, .int .i64 e] ∧ Own wc w' []) := fun h1 h2 => by
    have h3 := with_any (hr.out.old H) (hc.old H) (hk.old H) (by omega) (by omega) (by omega)
    rw [(W h1).val] at h3
    exact h3
  replace kw := Lib.hid kw
  have hrw := hr.out
  obtain ⟨N, hN⟩ : ∃ N, Hid (T.length = N) := ⟨_, rfl⟩
  obtain ⟨Lc, hLc⟩ : ∃ N, Hid (cs.length = N) := ⟨_, rfl⟩
  obtain ⟨Lk, hLk⟩ : ∃ N, Hid (ks.length = N) := ⟨_, rfl⟩
  have kx := fun (w' : World) (h : Own w w' []) => refexpand_any (w := w') T 2147483648 (hrw.old h) (by omega)
  rw [resVal_eq] at kx
  obtain ⟨f, hf⟩ : ∃ f, Hid (resE (exp 2147483648 T []) = f) := ⟨_, rfl⟩
  obtain ⟨u, hu⟩ : ∃ f, Hid (resT (exp 2147483648 T []) = f) := ⟨_, rfl⟩
  rw [hf.out, hu.out, hN.out] at kx
  rw [hLc.out, hLk.out, hN.out] at kw
  rw [hLc.out] at hc hcc1 W ⊢
  rw [hLk.out] at hk hkc1 ⊢
  rw [hN.out] at hT ⊢
  have KX := Lib.hid kx
  have HC := Lib.hid hc
  have HK := Lib.hid hk
  replace W := Lib.hid W
  clear kx hc hk hrw hr
  by_cases hbig : 20 < Lc ∨ 20 < Lk
  · have hways : (20 : Int) < (Lc : Int) ∨ ¬ (20 : Int) < (Lc : Int) ∧ (20 : Int) < (Lk : Int) := by omega
    clear hbig
    rcases hways with h1 | ⟨h1, h2⟩
    all_goals
      go_wp2_with fail
      refine (KA.out _).mono ?_
      rintro e5 w5 ⟨_, rfl, rfl, J⟩
      go_wp2
      go_ret
      exact ⟨_, rfl, rfl, H.join J⟩
  have hb1 : ¬ (20 : Int) < (Lc : Int) := by omega
  have hb2 : ¬ (20 : Int) < (Lk : Int) := by omega
  replace W := Lib.hid (W.out (by omega))
  replace kw := Lib.hid (kw.out (by omega) (by omega))
  clear hbig
  go_wp2_with fail
  refine kw.out.mono ?_
  rintro e5 w1 ⟨_, rfl, rfl, J⟩
  have HJ := H.join J
  clear kw
  go_wp2_with fail
  refine (KX.out _ HJ).mono ?_
  rintro e5 w2 ⟨_, rfl, rfl, J2⟩
  replace H : Own w w2 [] := HJ.join J2
  clear J J2 HJ KX
  obtain ⟨rt, hrt⟩ : ∃ b, Hid (rightF N cs ks = b) := ⟨_, rfl⟩
  obtain ⟨F, hF⟩ : ∃ b, Hid (wfalls N (cs.zip ks) 0 = b) := ⟨_, rfl⟩
  have hWe := W.out.err
  have hWn := W.out.none
  have hWs := W.out.some
  rw [hN.out, hrt.out, hF.out, hf.out] at hWe
  rw [hu.out] at hWs
  replace hWe := Lib.hid hWe
  replace hWn := Lib.hid hWn
  replace hWs := Lib.hid hWs
  clear W hf hu
  go_upto_region 8 with (fail)
  go_cut [12] (fun v12 wx => wx = w2 ∧ v12 = .bool rt)
  case first =>
    unfold rightF at hrt
    rw [hLc.out, hLk.out] at hrt
    by_cases h1 : 0 < Lc
    · have h1I : (0 : Int) < (Lc : Int) := by omega
      by_cases h2 : Lc = Lk
      · obtain ⟨M, rfl⟩ : ∃ M, Lc = M + 1 := ⟨Lc - 1, by omega⟩
        obtain rfl : Lk = M + 1 := by omega
        obtain ⟨bc, oc, rfl, ccell⟩ := rd_at HC.out H (i := M) (by omega)
        have hrt2 := hrt.out
        rw [decide_eq_true h1, decide_eq_true rfl, Bool.true_and, Bool.true_and, Nat.add_sub_cancel] at hrt2
        generalize cs.getD M 0 = x at *
        have hx1 : (x == (N : Int)) = rt := by rw [← hrt2]; rfl
        clear hrt hrt2 h1 h2
        go_wp2
        go_meet
        exact ⟨rfl, rfl⟩
      · have h2b : ((Lc : Int) == (Lk : Int)) = false := by simp; omega
        have hrt2 : Hid (false = rt) := Lib.hid (by rw [← hrt.out, decide_eq_true h1, decide_eq_false h2]; rfl)
        clear hrt h2 h1
        go_wp2
        go_meet
        exact ⟨rfl, by rw [hrt2.out]⟩
    · have h1I : ¬ (0 : Int) < (Lc : Int) := by omega
      have hrt2 : Hid (false = rt) := Lib.hid (by rw [← hrt.out, decide_eq_false h1]; rfl)
      clear hrt h1
      go_wp2
      go_meet
      exact ⟨rfl, by rw [hrt2.out]⟩
  case rest =>
  obtain ⟨rfl, rfl⟩ := hcut
  by_cases hrb : rt = true
  case neg =>
    obtain rfl : rt = false := by simpa using hrb
    have hWe2 := hWe.out
    have he1 : e = 1 := by rw [hWe2]; rfl
    have ht0 := hWn.out (by rw [he1]; decide)
    subst he1 ht0
    clear hWe hWn hWs hWe2 hrb hrt
    go_wp2_with fail
    go_loopw [15] (fun v15 wx => v15 = .int .i64 0 ∧ Own w wx []) (fun _ _ => 0)
    case atStart => exact ⟨rfl, H⟩
    case round =>
      clear H
      obtain ⟨rfl, H⟩ := hrel
      go_wp2_with fail
      refine (KA.out _).mono ?_
      rintro e5 w5 ⟨_, rfl, rfl, J⟩
      go_wp2
      go_ret
      exact ⟨_, rfl, rfl, H.join J⟩
  subst hrb
  obtain ⟨hL0, hLL⟩ : 0 < Lc ∧ Lc = Lk := by
    have h := hrt.out
    unfold rightF at h
    rw [hLc.out, hLk.out] at h
    simp only [Bool.and_eq_true, decide_eq_true_eq] at h
    exact ⟨h.1, h.2.1⟩
  subst hLL
  have hFz : Hid ((false || wfalls N ((cs.zip ks).drop 0) 0) = F) := Lib.hid (by rw [List.drop_zero, Bool.false_or]; exact hF.out)
  clear hrt hF
  go_wp2_with fail
  go_loopw [13, 14, 15] (fun v13 v14 v15 wx => ∃ (i : Nat) (fr : Int) (fb : Bool), v13 = .int .i64 fr ∧ v14 = .bool fb ∧ v15 = .int .i64 i ∧ i ≤ Lc ∧ Hid ((fb || wfalls N ((cs.zip ks).drop i) fr) = F) ∧ Own w wx []) (fun _ _ v15 _ => Lc - (intOf v15).toNat)
  case atStart => exact ⟨0, 0, false, rfl, rfl, rfl, by omega, hFz, H⟩
  case round =>
    clear H hFz
    obtain ⟨i, fr, fb, rfl, rfl, rfl, hi, hst, H⟩ := hrel
    by_cases hiL : i < Lc
    · have hiI : (i : Int) < (Lc : Int) := by omega
      obtain ⟨b1, o1, rfl, cc1⟩ := rd_at HC.out H hiL
      obtain ⟨b2, o2, rfl, cc2⟩ := rd_at HK.out H hiL
      have hst2 := hst.out
      rw [zip_drop (by rw [hLc.out]; exact hiL) (by rw [hLk.out]; exact hiL), wfalls] at hst2
      generalize cs.getD i 0 = x at *
      generalize ks.getD i 0 = kd at *
      replace hst2 := Lib.hid hst2
      clear hst
      have hways : (x < fr ∧ wbad N fr x kd = true) ∨ (¬ x < fr ∧ (N : Int) < x ∧ wbad N fr x kd = true) ∨ (¬ x < fr ∧ ¬ (N : Int) < x ∧ kd ≠ 1 ∧ kd ≠ 2 ∧ wbad N fr x kd = true) ∨ (¬ x < fr ∧ ¬ (N : Int) < x ∧ kd = 1 ∧ wbad N fr x kd = false) ∨ (¬ x < fr ∧ ¬ (N : Int) < x ∧ kd = 2 ∧ wbad N fr x kd = false) := by
        unfold wbad
        simp only [Bool.or_eq_true, Bool.or_eq_false_iff, decide_eq_true_eq, decide_eq_false_iff_not]
        omega
      rcases hways with ⟨h1, hw⟩ | ⟨h1, h2, hw⟩ | ⟨h1, h2, h3, h4, hw⟩ | ⟨h1, h2, h3, hw⟩ | ⟨h1, h2, h3, hw⟩
      · have hst3 : Hid ((true || wfalls N ((cs.zip ks).drop (i + 1)) x) = F) := Lib.hid (by have h := hst2.out; rw [hw] at h; rw [← h]; simp)
        clear hst2 hw
        go_wp2
        go_roundw
        case rel => exact ⟨i + 1, x, true, rfl, rfl, by go_num, by omega, hst3, H⟩
        case measure => simp [intOf]; omega
      · have hst3 : Hid ((true || wfalls N ((cs.zip ks).drop (i + 1)) x) = F) := Lib.hid (by have h := hst2.out; rw [hw] at h; rw [← h]; simp)
        clear hst2 hw
        go_wp2
        go_roundw
        case rel => exact ⟨i + 1, x, true, rfl, rfl, by go_num, by omega, hst3, H⟩
        case measure => simp [intOf]; omega
      · have hst3 : Hid ((true || wfalls N ((cs.zip ks).drop (i + 1)) x) = F) := Lib.hid (by have h := hst2.out; rw [hw] at h; rw [← h]; simp)
        have hk1 : (kd != 1) = true := by simp [h3]
        have hk2 : (kd != 2) = true := by simp [h4]
        have hk1' : (kd == 1) = false := by simp [h3]
        have hk2' : (kd == 2) = false := by simp [h4]
        clear hst2 hw h3 h4
        go_wp2
        go_roundw
        case rel => exact ⟨i + 1, x, true, rfl, rfl, by go_num, by omega, hst3, H⟩
        case measure => simp [intOf]; omega
      · have hst3 : Hid ((fb || wfalls N ((cs.zip ks).drop (i + 1)) x) = F) := Lib.hid (by have h := hst2.out; rw [hw, Bool.false_or] at h; exact h)
        subst h3
        clear hst2 hw
        go_wp2
        go_roundw
        case rel => exact ⟨i + 1, x, fb, rfl, rfl, by go_num, by omega, hst3, H⟩
        case measure => simp [intOf]; omega
      · have hst3 : Hid ((fb || wfalls N ((cs.zip ks).drop (i + 1)) x) = F) := Lib.hid (by have h := hst2.out; rw [hw, Bool.false_or] at h; exact h)
        subst h3
        clear hst2 hw
        go_wp2
        go_roundw
        case rel => exact ⟨i + 1, x, fb, rfl, rfl, by go_num, by omega, hst3, H⟩
        case measure => simp [intOf]; omega
    · obtain rfl : i = Lc := by omega
      have hiI : ¬ (i : Int) < (i : Int) := by omega
      have hnil : (cs.zip ks).drop i = [] := List.drop_eq_nil_of_le (by rw [List.length_zip, hLc.out, hLk.out]; omega)
      have hst2 := hst.out
      rw [hnil, wfalls, Bool.or_false] at hst2
      subst hst2
      have hWe2 := hWe.out
      clear hst hnil
      by_cases hf0 : f = 0
      · subst hf0
        cases fb with
        | true =>
          have he1 : e = 1 := by rw [hWe2]; rfl
          have ht0 := hWn.out (by rw [he1]; decide)
          subst he1 ht0
          clear hWe hWn hWs hWe2
          go_wp2_with fail
          refine (KA.out _).mono ?_
          rintro e5 w5 ⟨_, rfl, rfl, J⟩
          go_wp2
          go_ret
          exact ⟨_, rfl, rfl, H.join J⟩
        | false =>
          have he1 : e = 0 := by rw [hWe2]; rfl
          subst he1
          obtain ⟨hts, hus, hres⟩ := hWs.out rfl
          obtain ⟨z, hz⟩ : ∃ z, Hid (u.size = z) := ⟨_, rfl⟩
          rw [hz.out] at hus hres
          obtain ⟨tz, htz⟩ : ∃ z, Hid (t.size = z) := ⟨_, rfl⟩
          have KI := Lib.hid (fun w => rinflate_any w t (z : Int) (by omega) hts)
          rw [htz.out] at hres
          replace hres := Lib.hid hres
          have hz1 : u.size = z := hz.out
          have htz1 : t.size = tz := htz.out
          clear hWe hWn hWs hWe2 hz htz
          go_wp2_with fail
          refine (KI.out _).mono ?_
          rintro e5 w5 ⟨_, rfl, t1, u1, e1, rfl, hr1, J⟩
          obtain ⟨rfl, rfl, rfl⟩ := hres.out _ _ _ hr1
          replace H := H.join J
          clear J hr1 hres KI
          go_wp2_with fail
          refine (KA.out _).mono ?_
          rintro e5 w6 ⟨_, rfl, rfl, J⟩
          go_wp2
          go_ret
          exact ⟨_, rfl, rfl, H.join J⟩
      · have hfb : (f == 0) = false := by simp [hf0]
        have hfb2 : (f != 0) = true := by simp [hf0]
        have he1 : e = f := by rw [hWe2]; unfold wantF; rw [hfb]; rfl
        have ht0 := hWn.out (by rw [he1]; exact hf0)
        subst he1 ht0
        clear hWe hWn hWs hWe2 hf0
        go_wp2_with fail
        refine (KA.out _).mono ?_
        rintro e5 w5 ⟨_, rfl, rfl, J⟩
        go_wp2
        go_ret
        exact ⟨_, rfl, rfl, H.join J⟩
end Go.Proofs.Ytpbodonmiepilaa
