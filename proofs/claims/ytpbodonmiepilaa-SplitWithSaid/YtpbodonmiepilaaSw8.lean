/-
  Texts of this claim, one behind the other: huff; huff; As XCalm; A call that changes what there is, in a region that draws its order; inflate, the document's; inflate, the document's; inflate, the document's; huff; huff; inflate, the document's; flate.
-/
import Derived.Test.YtpbodonmiepilaaSw7
import Derived.Deep.LoopGhost
import Derived.WalkLawsBesides
import Derived.WalkSpells
import Derived.Deep.DeepCutAuto
import Derived.Deep.CutBlock
import Derived.Test.YtpbodonmiepilaaRows
set_option linter.unusedVariables false
/- huff: the walk of the document's Codes. -/
namespace Go.Proofs.Ytpbodonmiepilaa
open Go.RowKit


set_option maxRecDepth 100000 in
set_option maxHeartbeats 6400000 in
theorem rcodes_any {w : World} {v : Value} {n : Nat} {F : List Int} (hr : Rd w 1 v n (nums F)) (hn : n ≤ 1000000) :
    Calls Try.prog 89 #[v] w (Ret fun r w' => ∃ ov, r = .tuple #[ov, .int .i64 (cerrF F)] ∧ Own w w' [slc 3 1 ov (cresF F).length (nums (cresF F))]) := by
  have hl := Lib.hid (rd_len hr)
  obtain ⟨a, c, rfl, hc1, hc2⟩ := hr.shape
  have HR := Lib.hid hr
  obtain ⟨er, her⟩ : ∃ er, Hid (cerrF F = er) := ⟨_, rfl⟩
  obtain ⟨R, hRes⟩ : ∃ R, Hid (cresF F = R) := ⟨_, rfl⟩
  rw [her.out, hRes.out]
  obtain ⟨RL, hRL⟩ : ∃ RL, Hid (R.length = RL) := ⟨_, rfl⟩
  rw [hRL.out]
  obtain ⟨Z, hZ⟩ : ∃ Z, Hid (mayF F = Z) := ⟨_, rfl⟩
  have HC := Lib.hid (rmay_any hr hn)
  rw [hZ.out] at HC
  have hnil : er ≠ 0 → R = [] ∧ RL = 0 := fun h => by
    have : R = [] := by rw [← hRes.out]; unfold cresF; rw [her.out, if_neg h]
    exact ⟨this, by rw [← hRL.out, this]; rfl⟩
  have HNIL := Lib.hid hnil
  have HW := Lib.hid (fun (h : ∀ x ∈ F, 0 ≤ x ∧ x ≤ 15) w' (h1 : Own w w' []) => rweight_any (hr.old h1) hn h)
  clear hnil hr
  go_enter Try.func89, Try.ntmps89
  go_wp2_with fail
  refine HC.out.mono ?_
  rintro e w1 ⟨_, rfl, rfl, H⟩
  clear HC
  cases Z with
  | false =>
    have e1 : Hid (er = 1) := Lib.hid (by rw [← her.out]; unfold cerrF; rw [hZ.out]; rfl)
    obtain ⟨e2, e3⟩ := HNIL.out (by rw [e1.out]; decide)
    subst e3
    have E2 := Lib.hid e2
    clear e2
    go_wp2_with fail
    go_ret2
    refine ⟨_, rfl, _, by rw [e1.out]; rfl, ?_⟩
    rw [E2.out]
    exact H.bare.nil 3 1
  | true =>
    have hm := mayF_len hZ.out
    have HF := Lib.hid hm.2
    have hn3 : n ≤ 320 := by have := hm.1; have := hl.out; omega
    have HW2 := Lib.hid (HW.out hm.2 w1 H)
    obtain ⟨wt, hwt⟩ : ∃ wt, Hid (sumF wtF F = wt) := ⟨_, rfl⟩
    rw [hwt.out] at HW2
    clear hm HW
    by_cases hw : wt ≤ 32768
    · have e1 : Hid (er = 0) := Lib.hid (by rw [← her.out]; unfold cerrF; rw [hZ.out, if_pos rfl, hwt.out, if_pos (show wt ≤ 2 ^ 15 by omega)])
      have e2 : Hid (codesF F = R) := Lib.hid (by rw [← hRes.out]; unfold cresF; rw [her.out, e1.out]; rfl)
      have hRl : n = RL := by rw [← hRL.out, ← e2.out, codesF_length]; exact hl.out.symm
      subst hRl
      have hwI : ¬ (32768 : Int) < wt := by omega
      go_wp2_with fail
      refine HW2.out.mono ?_
      rintro e w2 ⟨_, rfl, rfl, H1⟩
      have H := (H.join H1).nil 3 1
      clear H1 HW2
      go_wp2_with fail
      go_loopw [4, 5] (fun s4 s5 wx => ∃ s : Nat, s5 = .int .i64 s ∧ s ≤ n ∧ Own w wx [slc 3 1 s4 s (nums ((codesF F).take s))]) (fun _ s5 _ => n - (intOf s5).toNat)
      case atStart => exact ⟨0, by go_num, by omega, by simpa [nums] using H⟩
      case round =>
        clear H
        obtain ⟨s, rfl, hs, H⟩ := hrel
        by_cases hlt : s < n
        · have hsI : (s : Int) < (n : Int) := by omega
          have hsl : s < F.length := by have := hl.out; omega
          obtain ⟨b, o, rfl, c1⟩ := rd_at HR.out H hlt
          have hy := HF.out (F.getD s 0) (by
            rw [List.getD_eq_getElem?_getD, List.getElem?_eq_getElem hsl]
            exact List.getElem_mem _)
          have hct := codes_take_succ hsl
          by_cases h0 : F.getD s 0 = 0
          · have hcode : codeF F s = 0 := by unfold codeF; rw [if_neg (by omega)]
            rw [hcode] at hct
            have hst : nums ((codesF F).take s) ++ [.int .i64 0] = nums ((codesF F).take (s + 1)) := by rw [hct]; simp [nums]
            have HST := Lib.hid hst
            rw [h0] at c1
            clear hst hct hcode h0 hy
            go_wp2_with (at_builtin; refine wpList_append_one rfl _ _ rfl Try.underlying22 intInfo rfl (by decide) rfl H (news := [.int .i64 0]) rfl rfl rfl (by simp [Value.oneCell']) (by omega) (by omega) ?_; clear H c1; intro v' w' H; rw [HST.out] at H)
            go_roundw
            case rel => exact ⟨s + 1, by go_num, by omega, H⟩
            case measure => simp [intOf]; omega
          · have hpos : 0 < F.getD s 0 := by omega
            have hsh := bef_shift HF.out hsl hpos
            obtain ⟨m, hm⟩ : ∃ m : Nat, F.getD s 0 = m := ⟨(F.getD s 0).toNat, by omega⟩
            have hst : nums ((codesF F).take s) ++ [.int .i64 (codeF F s)] = nums ((codesF F).take (s + 1)) := by rw [hct]; simp [nums]
            have HST := Lib.hid hst
            have hm1 : 1 ≤ m := by omega
            have hm2 : m ≤ 15 := by omega
            have HM := Lib.hid hm
            rw [hm] at c1 hsh
            rw [Int.toNat_natCast, hl.out] at hsh
            have HSH := Lib.hid hsh
            have hmz : ((m : Int) == 0) = false := by simp; omega
            clear hst hct h0 hy hpos hm hsh
            go_wp2_with fail
            go_loopw [6, 7] (fun s6 s7 wx => ∃ t : Nat, s7 = .int .i64 t ∧ t ≤ n ∧ s6 = .int .i64 (befN F s t) ∧ Own w wx [slc 3 1 u4 s (nums ((codesF F).take s))]) (fun _ s7 _ => n - (intOf s7).toNat)
            case atStart => exact ⟨0, by go_num, by omega, by simp [befN], H⟩
            case round =>
              clear H c1
              obtain ⟨t, rfl, ht, rfl, H⟩ := hrel
              by_cases htn : t < n
              · have htI : (t : Int) < (n : Int) := by omega
                have g : ∀ (ps' : List Piece) (w' : World), Own w w' ps' → w'.cell? ⟨b, o + s, none⟩ = some (.int .i64 m) ∧ w'.cell? ⟨b, o + t, none⟩ = some (.int .i64 (F.getD t 0)) := fun ps' w' h => by
                  obtain ⟨b1, o1, he, h1⟩ := rd_at HR.out h hlt
                  obtain ⟨b2, o2, he2, h2⟩ := rd_at HR.out h htn
                  cases he; cases he2
                  rw [HM.out] at h1
                  exact ⟨h1, h2⟩
                have hbl : Hid (befN F s (t + 1) = befN F s t + befT F s t) := Lib.hid rfl
                have hbt : befT F s t = if 0 < F.getD t 0 ∧ (F.getD t 0 < (m : Int) ∨ F.getD t 0 = (m : Int) ∧ t < s) then 2 ^ (15 - (F.getD t 0).toNat) else 0 := by unfold befT; rw [HM.out]
                have hx := HF.out (F.getD t 0) (by
                  rw [List.getD_eq_getElem?_getD, List.getElem?_eq_getElem (by have := hl.out; omega)]
                  exact List.getElem_mem _)
                have hbb := befN_bounds (l := F) HF.out s t
                have hbb2 := befT_bounds (l := F) HF.out s t
                generalize F.getD t 0 = x at *
                generalize befT F s t = z at *
                obtain ⟨q, hq⟩ : ∃ q, Hid (befN F s t = q) := ⟨_, rfl⟩
                rw [hq.out] at hbb hbl ⊢
                obtain ⟨bb, hbbE⟩ : ∃ bb, decide (0 < x ∧ (x < (m : Int) ∨ x = (m : Int) ∧ t < s)) = bb := ⟨_, rfl⟩
                have HBB := Lib.hid hbbE
                have G := Lib.hid g
                have HBT := Lib.hid hbt
                clear g hbt hbbE
                go_upto_region 15 with (fail)
                go_cut [65] (fun s65 wx => s65 = .bool bb ∧ Own w wx [slc 3 1 u4 s (nums ((codesF F).take s))])
                case first =>
                  have hb := HBB.out
                  by_cases g1 : 0 < x
                  case' neg =>
                    have e : Hid (bb = false) := Lib.hid (by rw [← hb]; simp; omega)
                  case' pos =>
                    by_cases g2 : x < (m : Int)
                    case' pos =>
                      have e : Hid (bb = true) := Lib.hid (by rw [← hb]; simp; omega)
                    case' neg =>
                      by_cases g3 : x = (m : Int)
                      case' neg =>
                        have g4 : (x == (m : Int)) = false := by simp; omega
                        have e : Hid (bb = false) := Lib.hid (by rw [← hb]; simp; omega)
                      case' pos =>
                        have g4 : ((m : Int) == (m : Int)) = true := by simp
                        subst g3
                        have hmp : 0 < m := by omega
                        by_cases g5 : t < s
                        case' pos =>
                          have g5I : (t : Int) < (s : Int) := by omega
                          have e : Hid (bb = true) := Lib.hid (by rw [← hb]; simp; omega)
                        case' neg =>
                          have g5I : ¬ (t : Int) < (s : Int) := by omega
                          have e : Hid (bb = false) := Lib.hid (by rw [← hb]; simp; omega)
                  all_goals
                    clear hb
                    refine wp_region_calm (fun w1 => Own w w1 [slc 3 1 u4 s (nums ((codesF F).take s))]) 31 (by kernel_rfl) (by kernel_rfl) H.drew ?_
                    simp only [List.take_succ_cons, List.take_zero, List.drop_succ_cons, List.drop_zero]
                    repeat
                      first
                      | (refine calm_value (v := ?_) (by decide) rfl (fun σ w1 hS => ?_) ?_
                         rotate_left
                         · obtain ⟨c0, c1⟩ := G.out _ _ hS
                           first | (go_simp; rfl) | rfl
                         simp only [Act.put, List.setIfInBounds_toArray, List.set_cons_zero, List.set_cons_succ])
                      | (refine calm_skip (by decide) rfl ?_
                         simp only [Act.put, List.setIfInBounds_toArray, List.set_cons_zero, List.set_cons_succ])
                    refine calm_nil ?_
                    intro wd HD
                    go_wp2_with fail
                    go_meet
                    exact ⟨by rw [e.out]; try rfl, HD⟩
                case rest =>
                  clear H
                  obtain ⟨rfl, H⟩ := hcut
                  obtain ⟨c0, c1⟩ := G.out _ _ H
                  cases bb with
                  | true =>
                    obtain ⟨k, rfl⟩ : ∃ k : Nat, x = k := ⟨x.toNat, by omega⟩
                    have hd : IntKind.i64.wrap (15 - (k : Int)) = ((15 - k : Nat) : Int) := by rw [IntWalk.i64_in _ ⟨by omega, by omega⟩]; omega
                    obtain ⟨d, hd2⟩ : ∃ d, d = 15 - k := ⟨_, rfl⟩
                    rw [← hd2] at hd
                    have hd15 : min d 64 = d := by omega
                    have HBT2 : Hid ((2 : Int) ^ d = z) := Lib.hid (by
                      have hb := HBB.out
                      have hbt := HBT.out
                      rw [if_pos (by simpa using hb), Int.toNat_natCast, ← hd2] at hbt
                      exact hbt.symm)
                    clear hd2
                    have hsw : wrap64 (q + z) = q + z := IntWalk.wrap64_in _ ⟨by omega, by omega⟩
                    have hpw : wrap64 ((2 : Int) ^ min d 64) = z := by rw [hd15, HBT2.out]; exact IntWalk.wrap64_in _ ⟨by omega, by omega⟩
                    clear hd15 hbb hbb2 hx
                    go_wp2_with fail
                    go_roundw
                    case rel => exact ⟨t + 1, by go_num, by omega, by rw [hbl.out]; exact val_int hsw, H⟩
                    case measure => simp [intOf]; omega
                  | false =>
                    have hz0 : z = 0 := by
                      have hb := HBB.out
                      have hbt := HBT.out
                      rw [if_neg (by simpa using hb)] at hbt
                      exact hbt
                    have hbl2 : Hid (befN F s (t + 1) = q) := Lib.hid (by rw [hbl.out, hz0, Int.add_zero])
                    clear hz0 hbl
                    go_wp2_with fail
                    go_roundw
                    case rel => exact ⟨t + 1, by go_num, by omega, by rw [hbl2.out], H⟩
                    case measure => simp [intOf]; omega
              · obtain rfl : t = n := by omega
                have htI : ¬ (t : Int) < (t : Int) := by omega
                obtain ⟨b1, o1, he, c1⟩ := rd_at HR.out H hlt
                cases he
                rw [HM.out] at c1
                have hbb := befN_bounds (l := F) HF.out s t
                have hd : IntKind.i64.wrap (15 - (m : Int)) = ((15 - m : Nat) : Int) := by rw [IntWalk.i64_in _ ⟨by omega, by omega⟩]; omega
                obtain ⟨q, hq⟩ : ∃ q, Hid (befN F s t = q) := ⟨_, rfl⟩
                rw [hq.out] at hbb HSH ⊢
                obtain ⟨d, hd2⟩ : ∃ d, d = 15 - m := ⟨_, rfl⟩
                rw [← hd2] at hd HSH
                have hd63 : d < 64 := by omega
                have hdI : (d : Int) < 64 := by omega
                clear hd2 hbb hs hm1 hm2
                go_wp2_with (at_builtin; rw [HSH.out]; refine wpList_append_one rfl _ _ rfl Try.underlying22 intInfo rfl (by decide) rfl H (news := [.int .i64 (codeF F s)]) rfl rfl rfl (by simp [Value.oneCell']) (by omega) (by omega) ?_; clear H c1; intro v' w' H; rw [HST.out] at H)
                go_roundw
                case rel => exact ⟨s + 1, by go_num, by omega, H⟩
                case measure => simp [intOf]; omega
        · obtain rfl : s = n := by omega
          have hsI : ¬ (s : Int) < (s : Int) := by omega
          rw [List.take_of_length_le (by rw [codesF_length]; have := hl.out; omega), e2.out] at H
          go_wp2_with fail
          go_ret2
          exact ⟨_, rfl, _, by rw [e1.out]; rfl, H⟩
    · have e1 : Hid (er = 2) := Lib.hid (by rw [← her.out]; unfold cerrF; rw [hZ.out, if_pos rfl, hwt.out, if_neg (show ¬ wt ≤ 2 ^ 15 by omega)])
      obtain ⟨e2, e3⟩ := HNIL.out (by rw [e1.out]; decide)
      subst e3
      have E2 := Lib.hid e2
      have hwI : (32768 : Int) < wt := by omega
      clear e2
      go_wp2_with fail
      refine HW2.out.mono ?_
      rintro e w2 ⟨_, rfl, rfl, H1⟩
      have H := (H.join H1)
      clear H1 HW2
      go_wp2_with fail
      go_ret2
      refine ⟨_, rfl, _, by rw [e1.out]; rfl, ?_⟩
      rw [E2.out]
      exact H.bare.nil 3 1
end Go.Proofs.Ytpbodonmiepilaa
/- huff: the walks of the document's Find and Decode. -/
namespace Go.Proofs.Ytpbodonmiepilaa
open Go.RowKit

set_option maxRecDepth 100000 in
set_option maxHeartbeats 6400000 in
theorem find_any {w0 w : World} {ps : List Piece} {rg n m : Nat} {l : List Int} {s : ByteArray} {v u : Value} (hall : ∀ x ∈ l, 0 ≤ x ∧ x ≤ 15) (hm : l.length = m) (hm2 : m ≤ 1000000) (hs : s.size ≤ 281474976710656) (hn : n ≤ 8 * s.size)
    (hrd : ∀ k wz, Own w0 wz (RRdr rg s k :: ps) → Rd wz 1 v m (nums l) ∧ Rd wz 1 u m (nums (codesF l)))
    (H : Own w0 w (RRdr rg s n :: ps)) :
    Calls Try.prog 90 #[v, u, .pointer (some ⟨rg, 0, none⟩)] w (Ret fun r w' => r = .tuple #[.int .i64 (decF l ((textBits s).drop n)).1, .int .i64 (decF l ((textBits s).drop n)).2.1] ∧ Own w0 w' (RRdr rg s (n + (decF l ((textBits s).drop n)).2.2) :: ps)) := by
  obtain ⟨h1, h2⟩ := hrd _ _ H
  obtain ⟨va, vc, rfl, hv1, hv2⟩ := h1.shape
  obtain ⟨ua, uc, rfl, hu1, hu2⟩ := h2.shape
  obtain ⟨bs, hbs⟩ : ∃ bs, Hid ((textBits s).drop n = bs) := ⟨_, rfl⟩
  rw [hbs.out]
  have hbl : Hid (bs.length = 8 * s.size - n) := Lib.hid (by rw [← hbs.out, List.length_drop, textBits_length])
  obtain ⟨x1, x2, x3, hD⟩ : ∃ x1 x2 x3, Hid (decF l bs = (x1, x2, x3)) := ⟨_, _, _, rfl⟩
  rw [hD.out]
  have HALL := Lib.hid hall
  have HRD := Lib.hid hrd
  have HM := Lib.hid hm
  clear hall hrd h1 h2 hm
  go_enter Try.func90, Try.ntmps90
  go_wp2_with fail
  go_loopw [8, 9] (fun s8 s9 wx => ∃ (i : Nat) (c : Int) (y : Int × Int × Nat), s9 = .int .i64 ((i : Int) + 1) ∧ s8 = .int .i64 c ∧ i ≤ 15 ∧ i ≤ bs.length ∧ 0 ≤ c ∧ Hid (c < 2 ^ i) ∧ Hid (lowF l i + cntC l i ≤ c) ∧ Hid (decN l (15 - i) i c (bs.drop i) = y) ∧ Hid (y.1 = x1 ∧ y.2.1 = x2 ∧ i + y.2.2 = x3) ∧ Own w0 wx (RRdr rg s (n + i) :: ps)) (fun _ s9 _ => 16 - (intOf s9).toNat)
  case atStart =>
    exact ⟨0, 0, _, by go_num, by go_num, by omega, by omega, by omega, Lib.hid (by decide), Lib.hid (by rw [lowF_zero]; simp [cntC]), Lib.hid rfl, Lib.hid (by have := hD.out; unfold decF at this; simp [this]), H⟩
  case round =>
    clear H
    obtain ⟨i, c, y, rfl, rfl, hi, hib, hc0, hc2, hcl2, hy, hyx, H⟩ := hrel
    by_cases hlt : i < 15
    · have hiI : (i : Int) + 1 ≤ 15 := by omega
      have hci : c ≤ 32768 := by
        obtain ⟨p, hp, h2, h3⟩ := pow_pos_nat i (by omega)
        have := hc2.out
        rw [hp] at this
        omega
      by_cases hbit : i < bs.length
      · obtain ⟨b, hb⟩ : ∃ b, bs[i]? = some b := ⟨bs[i], List.getElem?_eq_getElem hbit⟩
        have ht := rtake_yes (m := 1) H hs (by omega) (by have := hbl.out; omega)
        rw [show ((1 : Nat) : Int) = 1 from rfl] at ht
        have hval : ((textBits s).drop (n + i)).take 1 = [b] := by
          rw [← List.drop_drop, hbs.out]
          have : bs.drop i = b :: bs.drop (i + 1) := by
            obtain ⟨h1, h2⟩ := List.getElem?_eq_some_iff.1 hb
            rw [List.drop_eq_getElem_cons h1, h2]
          rw [this]; rfl
        rw [hval] at ht
        have hvb : valOf [b] = bi b := by simp [valOf]
        rw [hvb] at ht
        have hy2 := hy.out
        have hdrop : bs.drop i = b :: bs.drop (i + 1) := by
          obtain ⟨h1, h2⟩ := List.getElem?_eq_some_iff.1 hb
          rw [List.drop_eq_getElem_cons h1, h2]
        rw [hdrop, show 15 - i = (15 - (i + 1)) + 1 by omega, decN] at hy2
        have hbd := bi_bd b
        have hc2' : Hid (2 * c + bi b < 2 ^ (i + 1)) := Lib.hid (by have := hc2.out; rw [Int.pow_succ]; omega)
        have hsl := symsL_length (l := l) (i + 1)
        have hcnt : cntC l (i + 1) = cntL l (i + 1) := by unfold cntC; rw [if_neg (by omega)]
        have HT := Lib.hid ht
        obtain ⟨d, hd⟩ : ∃ d, bi b = d := ⟨_, rfl⟩
        rw [hd] at hy2 hc2' hbd HT
        have hlow1 : lowF l (i + 1) ≤ 2 * c + d := by have := hcl2.out; rw [lowF_succ]; omega
        have hcode := fun s => code_at (l := l) (n := i + 1) (s := s) (c := 2 * c + d) (by omega) hlow1
        have HCODE := Lib.hid hcode
        have hw1 : IntKind.i64.wrap (2 * c) = 2 * c := IntWalk.i64_in _ ⟨by omega, by omega⟩
        have hw2 : IntKind.i64.wrap (2 * c + d) = 2 * c + d := IntWalk.i64_in _ ⟨by omega, by omega⟩
        have hw3 : IntKind.i64.wrap ((i : Int) + 1 + 1) = (i : Int) + 1 + 1 := IntWalk.i64_in _ ⟨by omega, by omega⟩
        have HY2 := Lib.hid hy2
        have hcd0 : 0 ≤ 2 * c + d := by omega
        have HREST : Hid ((symsL l (i + 1))[(2 * c + d - lowF l (i + 1)).toNat]? = none → lowF l (i + 1) + cntC l (i + 1) ≤ 2 * c + d) := Lib.hid (fun h => by
          have := List.getElem?_eq_none_iff.1 h
          omega)
        clear ht hdrop hvb hval hb hd hy hcode hy2 hcnt hsl hlow1 hcl2 hc2
        have hii : i + 1 ≤ bs.length := hbit
        clear hbit
        go_wp2_with fail
        refine HT.out.mono ?_
        rintro e w2 ⟨_, rfl, rfl, H2⟩
        clear H HT
        go_wp2_with fail
        go_loopw [12] (fun s12 wx => ∃ j : Nat, s12 = .int .i64 j ∧ j ≤ m ∧ Hid (∀ t, t < j → ¬ (l.getD t 0 = ((i + 1 : Nat) : Int) ∧ codeF l t = 2 * c + d)) ∧ Own w0 wx (RRdr rg s (n + i + 1) :: ps)) (fun s12 _ => m - (intOf s12).toNat)
        case atStart => exact ⟨0, by go_num, by omega, Lib.hid (fun t h => by omega), H2⟩
        case round =>
          clear H2
          obtain ⟨j, rfl, hj, hno, H⟩ := hrel
          by_cases hjm : j < m
          · have hjI : (j : Int) < (m : Int) := by omega
            obtain ⟨r1, r2⟩ := HRD.out _ _ H
            have hjl : j < l.length := by have := HM.out; omega
            obtain ⟨b1, o1, rfl, c0⟩ := rd_at r1 (Own.start wr) hjm
            obtain ⟨b2, o2, rfl, c1⟩ := rd_at r2 (Own.start wr) hjm
            rw [codesF_get hjl] at c1
            have hmem : Hid (l.getD j 0 = ((i + 1 : Nat) : Int) → codeF l j = 2 * c + d → (symsL l (i + 1))[(2 * c + d - lowF l (i + 1)).toNat]? = some j) := Lib.hid (fun h1 h2 => (HCODE.out j).1 ⟨hjl, h1, h2⟩)
            have hno2 : Hid (¬ (l.getD j 0 = ((i + 1 : Nat) : Int) ∧ codeF l j = 2 * c + d) → ∀ t, t < j + 1 → ¬ (l.getD t 0 = ((i + 1 : Nat) : Int) ∧ codeF l t = 2 * c + d)) := Lib.hid (fun h t ht => by
              rcases Nat.lt_or_ge t j with h1 | h1
              · exact hno.out t h1
              · have : t = j := by omega
                subst this; exact h)
            generalize l.getD j 0 = x at *
            generalize codeF l j = cj at *
            clear r1 r2
            by_cases hx : x = (i : Int) + 1
            · have hxe : (x == (i : Int) + 1) = true := by simpa using hx
              by_cases hcj : cj = 2 * c + d
              · have hce : (cj == 2 * c + d) = true := by simpa using hcj
                have hy3 := HY2.out
                rw [hmem.out (by omega) hcj] at hy3
                simp only at hy3
                subst hy3
                obtain ⟨hx1, hx2, hx3⟩ := hyx.out
                simp only at hx1 hx2 hx3
                subst hx1 hx2 hx3
                clear hx hcj
                go_wp2_with fail
                go_ret2
                exact ⟨_, rfl, rfl, by rw [← Nat.add_assoc]; exact H⟩
              · have hce : (cj == 2 * c + d) = false := by simpa using hcj
                have hno3 := Lib.hid (hno2.out (fun h => hcj h.2))
                clear hcj hx
                go_wp2_with fail
                go_roundw
                case rel => exact ⟨j + 1, by go_num, by omega, hno3, H⟩
                case measure => simp [intOf]; omega
            · have hxe : (x == (i : Int) + 1) = false := by simpa using hx
              have hno3 := Lib.hid (hno2.out (fun h => hx (by omega)))
              clear hx
              go_wp2_with fail
              go_roundw
              case rel => exact ⟨j + 1, by go_num, by omega, hno3, H⟩
              case measure => simp [intOf]; omega
          · obtain rfl : j = m := by omega
            obtain ⟨r1, r2⟩ := HRD.out _ _ H
            have hjI : ¬ (j : Int) < (j : Int) := by omega
            have hnone : (symsL l (i + 1))[(2 * c + d - lowF l (i + 1)).toNat]? = none := by
              cases hq : (symsL l (i + 1))[(2 * c + d - lowF l (i + 1)).toNat]? with
              | none => rfl
              | some t =>
                have h3 := (HCODE.out t).2 hq
                exact absurd ⟨h3.2.1, h3.2.2⟩ (hno.out t (by have := HM.out; omega))
            have hy3 := HY2.out
            rw [hnone] at hy3
            simp only at hy3
            subst hy3
            have hyx2 : Hid ((decN l (15 - (i + 1)) (i + 1) (2 * c + d) (bs.drop (i + 1))).1 = x1 ∧ (decN l (15 - (i + 1)) (i + 1) (2 * c + d) (bs.drop (i + 1))).2.1 = x2 ∧ i + 1 + (decN l (15 - (i + 1)) (i + 1) (2 * c + d) (bs.drop (i + 1))).2.2 = x3) := Lib.hid (by
              obtain ⟨h1, h2, h3⟩ := hyx.out
              exact ⟨h1, h2, by rw [← h3]; simp only; omega⟩)
            have hcl3 := Lib.hid (HREST.out hnone)
            clear hnone r1 r2
            go_wp2_with fail
            go_roundw
            case rel => exact ⟨i + 1, 2 * c + d, _, by go_num, by go_num, by omega, hii, hcd0, hc2', hcl3, Lib.hid rfl, hyx2, by rw [← Nat.add_assoc]; exact H⟩
            case measure => simp [intOf]; omega
      · have hib2 : i = bs.length := by omega
        have hy2 := hy.out
        rw [List.drop_eq_nil_of_le (by omega), show 15 - i = (15 - (i + 1)) + 1 by omega, decN] at hy2
        subst hy2
        obtain ⟨hx1, hx2, hx3⟩ := hyx.out
        simp only at hx1 hx2 hx3
        rw [Nat.add_zero] at hx3
        subst hx1 hx2 hx3
        have ht := rtake_no 1 (by omega) (by omega) H hs (by have := hbl.out; omega) (.inr (.inr (by have := hbl.out; omega)))
        have HT := Lib.hid ht
        clear ht hib2
        go_wp2_with fail
        refine HT.out.mono ?_
        rintro e w2 ⟨_, rfl, rfl, H2⟩
        clear H
        go_wp2_with fail
        go_ret2
        exact ⟨_, rfl, rfl, H2⟩
    · have hi15 : i = 15 := by omega
      have hiI : ¬ (i : Int) + 1 ≤ 15 := by omega
      have hy2 := hy.out
      rw [show 15 - i = 0 by omega, decN] at hy2
      subst hy2
      obtain ⟨hx1, hx2, hx3⟩ := hyx.out
      simp only at hx1 hx2 hx3
      rw [Nat.add_zero] at hx3
      subst hx1 hx2 hx3
      clear hi15
      go_wp2_with fail
      go_ret2
      exact ⟨_, rfl, rfl, H⟩

end Go.Proofs.Ytpbodonmiepilaa
/- As XCalm: of the operations in 'tw', whose values are known, too, S is told when they were done. No program in sight. (Written by tools/trk.py.) -/
namespace Go.Proofs.Ytpbodonmiepilaa.Trk
open Go.RowKit

def trk (tw : List Nat) (i : Nat) (v : Value) (σ : Sig) : Sig := if i ∈ tw then σ.upd i v else σ
/-- In every world that meets S the operation yields v, and S holds behind it. -/
def Calm1 (P : Program) (S : Sig → World → Prop) (tw : List Nat) (i : Nat) (o : Oper) (a : Act) (v : Value) : Prop :=
  ∀ σ w, S σ w → (i ∈ tw → σ i = none) → ∀ (K : Act → World → Prop) (Q : Exit → Act → World → Prop), (∀ w', S (trk tw i v σ) w' → K (a.put o.dst v) w') → o.wp P a w K Q

def calm (P : Program) (ops : Array Oper) (S : Sig → World → Prop) (nw tw : List Nat) (R : Act → Prop) : Nat → List Oper → Act → Prop
  | _, [], a => R a
  | i, o :: rest, a => (i ∈ nw ∧ New1 P S i o a ∧ calm P ops S nw tw R (i + 1) rest a) ∨
      (i ∉ nw ∧ Region.wanted o (yielded ops a.tmps) = true ∧ ∃ v, Calm1 P S tw i o a v ∧ calm P ops S nw tw R (i + 1) rest (a.put o.dst v)) ∨
      (i ∉ nw ∧ Region.wanted o (yielded ops a.tmps) = false ∧ calm P ops S nw tw R (i + 1) rest (a.put o.dst undef))

section
variable {P : Program} {ops : Array Oper} {S : Sig → World → Prop} {nw tw : List Nat} {R : Act → Prop} {a : Act} {o : Oper} {rest : List Oper} {i : Nat}
theorem calm_nil (h : R a) : calm P ops S nw tw R i [] a := h
theorem calm_step (v : Value) (hi : i ∉ nw) (hw : Region.wanted o (yielded ops a.tmps) = true)
    (h1 : ∀ σ w, S σ w → (i ∈ tw → σ i = none) → ∀ (K : Act → World → Prop) (Q : Exit → Act → World → Prop), (∀ w', S (trk tw i v σ) w' → K (a.put o.dst v) w') → o.wp P a w K Q) (h : calm P ops S nw tw R (i + 1) rest (a.put o.dst v)) : calm P ops S nw tw R i (o :: rest) a := .inr (.inl ⟨hi, hw, v, h1, h⟩)
theorem calm_skip (hi : i ∉ nw) (hw : Region.wanted o (yielded ops a.tmps) = false)
    (h : calm P ops S nw tw R (i + 1) rest (a.put o.dst undef)) : calm P ops S nw tw R i (o :: rest) a := .inr (.inr ⟨hi, hw, h⟩)
theorem calm_new (hi : i ∈ nw)
    (h1 : ∀ σ w, S σ w → ∀ (K : Act → World → Prop) (Q : Exit → Act → World → Prop), (∀ v w', S (σ.upd i v) w' → K (a.put o.dst v) w') → o.wp P a w K Q) (h : calm P ops S nw tw R (i + 1) rest a) : calm P ops S nw tw R i (o :: rest) a := .inl ⟨hi, h1, h⟩
end

section
variable {P : Program} {ops : Array Oper} {S : Sig → World → Prop} {nw tw : List Nat}
theorem calm_frames {R : Act → Prop} : ∀ (l : List Oper) (i : Nat) (a : Act), calm P ops S nw tw R i l a →
    ∃ vs : List Value, vs.length = l.length ∧ R (frames ((dets nw i l).zip vs) a) ∧
      ∀ k o, l[k]? = some o → ∃ v, vs[k]? = some v ∧
        ((i + k ∈ nw ∧ New1 P S (i + k) o (frames (((dets nw i l).zip vs).take k) a)) ∨
         (i + k ∉ nw ∧ Region.wanted o (yielded ops (frames (((dets nw i l).zip vs).take k) a).tmps) = true ∧ Calm1 P S tw (i + k) o (frames (((dets nw i l).zip vs).take k) a) v) ∨
         (i + k ∉ nw ∧ Region.wanted o (yielded ops (frames (((dets nw i l).zip vs).take k) a).tmps) = false ∧ v = undef)) := by
  intro l
  induction l with
  | nil => intro i a h; exact ⟨[], rfl, h, fun k o hk => by simp at hk⟩
  | cons o l ih =>
    intro i a h
    have step : ∀ (v : Value) (a' : Act), a' = a.put (if i ∈ nw then none else o.dst) v → calm P ops S nw tw R (i + 1) l a' →
        ((i ∈ nw ∧ New1 P S i o a) ∨ (i ∉ nw ∧ Region.wanted o (yielded ops a.tmps) = true ∧ Calm1 P S tw i o a v) ∨ (i ∉ nw ∧ Region.wanted o (yielded ops a.tmps) = false ∧ v = undef)) → ∃ vs : List Value, vs.length = (o :: l).length ∧ R (frames ((dets nw i (o :: l)).zip vs) a) ∧
      ∀ k o', (o :: l)[k]? = some o' → ∃ v, vs[k]? = some v ∧
        ((i + k ∈ nw ∧ New1 P S (i + k) o' (frames (((dets nw i (o :: l)).zip vs).take k) a)) ∨
         (i + k ∉ nw ∧ Region.wanted o' (yielded ops (frames (((dets nw i (o :: l)).zip vs).take k) a).tmps) = true ∧ Calm1 P S tw (i + k) o' (frames (((dets nw i (o :: l)).zip vs).take k) a) v) ∨
         (i + k ∉ nw ∧ Region.wanted o' (yielded ops (frames (((dets nw i (o :: l)).zip vs).take k) a).tmps) = false ∧ v = undef)) := by
      intro v a' ha hc h0
      obtain ⟨vs, hl, hR, hk⟩ := ih _ _ hc
      refine ⟨v :: vs, by simp [hl], by rw [ha] at hR; exact hR, fun k o' hk' => ?_⟩
      cases k with
      | zero => simp at hk'; subst hk'; exact ⟨v, rfl, h0⟩
      | succ k =>
        have := hk k o' (by simpa using hk')
        rw [ha, show i + 1 + k = i + (k + 1) by omega] at this
        exact this
    rcases h with ⟨hi, h1, h2⟩ | ⟨hi, hw, v, h1, h2⟩ | ⟨hi, hw, h2⟩
    · exact step undef a (by rw [if_pos hi]; rfl) h2 (.inl ⟨hi, h1⟩)
    · exact step v _ (by rw [if_neg hi]) h2 (.inr (.inl ⟨hi, hw, h1⟩))
    · exact step undef _ (by rw [if_neg hi]) h2 (.inr (.inr ⟨hi, hw, rfl⟩))

theorem Calm1.at {tw : List Nat} {i : Nat} {o : Oper} {a a' : Act} {v : Value} (h : Calm1 P S tw i o a v) (he : execOp a'.eval o = execOp a.eval o) (hs : a.tmps.size = a'.tmps.size) {σ : Sig} {w : World} (hw : S σ w) (hfr : i ∈ tw → σ i = none)
    (K : Act → World → Prop) (Q : Exit → Act → World → Prop) (hK : ∀ w', S (trk tw i v σ) w' → K (a'.put o.dst v) w') : o.wp P a' w K Q := by
  have h1 := h σ w hw hfr (fun a1 w1 => a1 = a.put o.dst v ∧ S (trk tw i v σ) w1) (fun _ _ _ => False) (fun w' hw' => ⟨rfl, hw'⟩)
  unfold Oper.wp at *
  rw [he]
  generalize (execOp a.eval o).run P w = r at *
  cases r with
  | ok n w' =>
    cases n <;> simp only [Oper.upon] at h1 ⊢
    case value u => rw [put_eq hs h1.1]; exact hK _ h1.2
    case skip => rw [put_eq hs h1.1]; exact hK _ h1.2
    case defer d =>
      have := congrArg (fun x => x.defers.length) h1.1
      cases hd : o.dst <;> simp [Act.put, hd] at this
    case enter f args =>
      refine Calls.mono h1 fun e w'' he => ?_
      cases e with
      | returned u =>
        show K (a'.put o.dst u) w''
        rw [put_eq hs he.1]; exact hK _ he.2
      | panicked c => exact he.elim
      | outgrown => obtain ⟨_, _, hh⟩ := he; exact hh.elim
    case row row args => exact Rows.mono h1 fun u w'' he => by rw [put_eq hs he.1]; exact hK _ he.2
  | halt x w' => cases x <;> simp only [Oper.upon] at h1 ⊢
theorem wpAny_new {Q : Exit → Act → World → Prop} {a a0 : Act} {w : World} {l : List Oper} (S : Sig → World → Prop) (n : Nat) (nw tw : List Nat) (pre : List Nat) (htw : ∀ k ∈ tw, k < n ∧ k ∉ nw ∧ k ∉ pre ∧ ∀ o, l[k]? = some o → o.guard = none) (hok : calmOk l.toArray n nw pre = true) (hS : S Sig.no w)
    (h : calm P l.toArray S nw tw (fun a' => ∀ σ w', (∀ k ∈ nw, (σ k).isSome = true) → (∀ k ∈ tw, (σ k).isSome = true) → S σ w' → wpList P l.toArray Q (l.drop n) (putNew l nw σ a') w') 0 (l.take n) a)
    (listed0 : Array Bool) (hs0 : listed0.size = l.length) (hl0 : ∀ k, k < l.length → listed0.getD k true = true → k ∈ pre) (hp0 : ∀ p ∈ pre, listed0.getD p true = true)
    (ha0 : PreRun P l pre a a0) :
    wpAny P .any l.toArray Q (left listed0) listed0 a0 w := by
  have g := good_of hok
  have hnl : n ≤ l.length := by simpa using g.le
  obtain ⟨vs, hvl, hR, hk⟩ := calm_frames _ _ _ h
  have hvn : vs.length = n := by simp [hvl, hnl]
  obtain ⟨D, hD⟩ : ∃ D, (dets nw 0 (l.take n)).zip vs = D := ⟨_, rfl⟩
  rw [hD] at hR hk
  simp only [Nat.zero_add] at hk
  have hDl : D.length = n := by rw [← hD]; simp [dets_length, hvn, hnl]
  have hget : ∀ k, k < n → (dets nw 0 (l.take n))[k]? = (l[k]?).map fun o => if k ∈ nw then none else o.dst := by
    intro k hk
    rw [dets_get]
    simp [hk]
  -- the k-th of D
  have hDk : ∀ (k : Nat) (o : Oper) (v : Value), k < n → k ∉ nw → l[k]? = some o → vs[k]? = some v → D[k]? = some (o.dst, v) := by
    intro k o v hkn hnk ho hv
    rw [← hD, List.getElem?_zip_eq_some]
    refine ⟨?_, hv⟩
    rw [hget k hkn, ho]
    simp [hnk]
  have hDd : ∀ (k : Nat) (t : Tmp) (v : Value), D[k]? = some (some t, v) → k < n ∧ k ∉ nw ∧ ∃ o, l[k]? = some o ∧ o.dst = some t := by
    intro k t v hk
    have hkn : k < n := by rw [← hDl]; exact (List.getElem?_eq_some_iff.1 hk).1
    rw [← hD, List.getElem?_zip_eq_some] at hk
    obtain ⟨h1, _⟩ := hk
    rw [hget k hkn, Option.map_eq_some_iff] at h1
    obtain ⟨o, ho, hd⟩ := h1
    by_cases hnk : k ∈ nw
    · simp [hnk] at hd
    · rw [if_neg hnk] at hd
      exact ⟨hkn, hnk, o, ho, hd⟩
  have huniq : ∀ (j k : Nat) (t : Tmp) (u v : Value), k ≠ j → D[k]? = some (some t, u) → D[j]? ≠ some (some t, v) := by
    intro j k t u v hkj h1 h2
    obtain ⟨hkn, _, ok, hok', hdk⟩ := hDd k _ u h1
    obtain ⟨hjn, _, oj, hoj, hdj⟩ := hDd j _ v h2
    exact (g.pair k j ok oj t hkn hjn hkj (by simpa using hok') (by simpa using hoj) hdk).1 hdj
  -- .. with the new ones' values
  obtain ⟨F, hF⟩ : ∃ F : Sig → Nat → Option (Option Tmp × Value), ∀ σ k, F σ k = if k ∈ nw then (l[k]?).map fun o => (o.dst, (σ k).getD undef) else D[k]? := ⟨_, fun _ _ => rfl⟩
  have hFd : ∀ (σ : Sig) (k : Nat) (t : Tmp) (v : Value), F σ k = some (some t, v) → k < n ∧ ∃ o, l[k]? = some o ∧ o.dst = some t := by
    intro σ k t v hk
    rw [hF] at hk
    by_cases hnk : k ∈ nw
    · rw [if_pos hnk, Option.map_eq_some_iff] at hk
      obtain ⟨o, ho, hd⟩ := hk
      exact ⟨g.newLt k hnk, o, ho, by simp at hd; exact hd.1⟩
    · rw [if_neg hnk] at hk
      obtain ⟨h1, _, h3⟩ := hDd k t v hk
      exact ⟨h1, h3⟩
  have hFu : ∀ (σ : Sig) (j k : Nat) (t : Tmp) (u v : Value), k ≠ j → F σ k = some (some t, u) → F σ j ≠ some (some t, v) := by
    intro σ j k t u v hkj h1 h2
    obtain ⟨hkn, ok, hok', hdk⟩ := hFd σ k _ u h1
    obtain ⟨hjn, oj, hoj, hdj⟩ := hFd σ j _ v h2
    exact (g.pair k j ok oj t hkn hjn hkj (by simpa using hok') (by simpa using hoj) hdk).1 hdj
  have hend : ∀ (E : Nat → Prop) (a' : Act) (σ : Sig), (∀ k, k < n → E k) → Agree (F σ) E a a' → a' = putNew l nw σ (frames D a) := by
    intro E a' σ hall hA
    have hB := agree_frames D huniq a n (by omega)
    rw [List.take_of_length_le (by omega)] at hB
    obtain ⟨k1, k2⟩ := putNew_keeps l σ nw (frames D a)
    refine act_ext ?_ (hA.defers.trans (hB.defers.symm.trans k1.symm))
    apply Array.ext_getElem?
    intro t
    by_cases hts : t < a.tmps.size
    · by_cases hw : ∃ (k : Nat) (v : Value), F σ k = some (some t, v)
      · obtain ⟨k, v, hkv⟩ := hw
        obtain ⟨hkn, o, ho, hd⟩ := hFd σ k _ v hkv
        rw [hA.wrote k t v (hall k hkn) hkv hts]
        have hkv' := hkv
        rw [hF] at hkv
        by_cases hnk : k ∈ nw
        · rw [if_pos hnk, ho] at hkv
          simp at hkv
          rw [putNew_new l σ t k nw _ hnk (by simp [ho, hd]) (fun j hj hdj => ?_) (by rw [hB.size]; exact hts), hkv.2]
          by_cases hjk : j = k
          · exact hjk
          · exfalso
            cases hlj : l[j]? with
            | none => rw [hlj] at hdj; cases hdj
            | some oj =>
              rw [hlj] at hdj
              refine hFu σ j k t v ((σ j).getD undef) (Ne.symm hjk) hkv' ?_
              rw [hF, if_pos hj, hlj]
              simp at hdj
              simp [hdj]
        · rw [if_neg hnk] at hkv
          rw [putNew_old l σ t nw _ fun j hj hdj => ?_, hB.wrote k t v hkn hkv hts]
          cases hlj : l[j]? with
          | none => rw [hlj] at hdj; cases hdj
          | some oj =>
            rw [hlj] at hdj
            refine hFu σ j k t v ((σ j).getD undef) (fun e => hnk (e ▸ hj)) hkv' ?_
            rw [hF, if_pos hj, hlj]
            simp at hdj
            simp [hdj]
      · rw [hA.kept t fun k v _ hkv => hw ⟨k, v, hkv⟩, putNew_old l σ t nw _ fun j hj hdj => ?_, hB.kept t fun k v _ hkv => ?_]
        · obtain ⟨_, hnk, _⟩ := hDd k t v hkv
          exact hw ⟨k, v, by rw [hF, if_neg hnk]; exact hkv⟩
        · cases hlj : l[j]? with
          | none => rw [hlj] at hdj; cases hdj
          | some oj =>
            rw [hlj] at hdj
            refine hw ⟨j, (σ j).getD undef, ?_⟩
            rw [hF, if_pos hj, hlj]
            simp at hdj
            simp [hdj]
    · rw [Array.getElem?_eq_none (show a'.tmps.size ≤ t from by rw [hA.size]; exact Nat.le_of_not_lt hts), Array.getElem?_eq_none (show (putNew l nw σ (frames D a)).tmps.size ≤ t from by rw [k2, hB.size]; exact Nat.le_of_not_lt hts)]
  have main : ∀ (fuel : Nat) (listed : Array Bool) (a' : Act) (w' : World) (σ : Sig), listed.size = l.length → left listed = fuel → (∀ j, n ≤ j → j < l.length → listed.getD j true = false) →
      (∀ k o, k < l.length → listed.getD k true = true → l[k]? = some o → ∀ e ∈ o.after, Region.binds .any e = true → listed.getD e.on false = true) →
      (∀ k ∈ nw, listed.getD k true = true → (σ k).isSome = true) → (∀ k ∈ tw, (listed.getD k true = true → (σ k).isSome = true) ∧ (listed.getD k true = false → σ k = none)) → (∀ p ∈ pre, listed.getD p true = true) →
      Agree (F σ) (fun k => k < n ∧ listed.getD k true = true) a a' → S σ w' → wpAny P .any l.toArray Q fuel listed a' w' := by
    intro fuel
    induction fuel with
    | zero =>
      intro listed a' w' σ hs hl ht hc hσ hτ hP hA hSw
      have hall : ∀ k, k < l.length → listed.getD k true = true := fun k hk => by
        cases hkk : listed.getD k true with
        | true => rfl
        | false => have := left_pos (j := k) (by omega) hkk; omega
      have hn : n = l.length := by
        rcases Nat.lt_or_ge n l.length with h | h
        · have := hall n h; rw [ht n (Nat.le_refl _) h] at this; cases this
        · omega
      refine tail_any g 0 n listed a' w' hs (Nat.le_refl _) (fun k _ hk => hall k hk) ht hl ?_
      rw [hend _ a' σ (fun k hk => ⟨hk, hall k (by omega)⟩) hA]
      exact hR σ w' (fun k hk => hσ k hk (hall k (by have := g.newLt k hk; omega))) (fun k hk => (hτ k hk).1 (hall k (by have := (htw k hk).1; omega))) hSw
    | succ fuel ih =>
      intro listed a' w' σ hs hl ht hc hσ hτ hP hA hSw
      by_cases hpre : ∀ k, k < n → listed.getD k true = true
      · refine tail_any g (fuel + 1) n listed a' w' hs (Nat.le_refl _) (fun k hk _ => hpre k hk) ht hl ?_
        rw [hend _ a' σ (fun k hk => ⟨hk, hpre k hk⟩) hA]
        exact hR σ w' (fun k hk => hσ k hk (hpre k (g.newLt k hk))) (fun k hk => (hτ k hk).1 (hpre k (htw k hk).1)) hSw
      · -- the least that is not listed is ready
        have hex : ∃ k, k < n ∧ listed.getD k true = false := by
          rcases Classical.em (∃ k, k < n ∧ listed.getD k true = false) with h | h
          · exact h
          · exact absurd (fun k hk => by
              cases hkk : listed.getD k true with
              | true => rfl
              | false => exact absurd ⟨k, hk, hkk⟩ h) hpre
        obtain ⟨m, hm, hmin⟩ : ∃ m, (m < n ∧ listed.getD m true = false) ∧ ∀ k, k < m → listed.getD k true = true := by
          obtain ⟨k, hk⟩ := hex
          induction k using Nat.strongRecOn with
          | _ k ihk =>
            rcases Classical.em (∃ j, j < k ∧ listed.getD j true = false) with ⟨j, hj, hjl⟩ | h
            · exact ihk j hj ⟨by omega, hjl⟩
            · refine ⟨k, hk, fun j hj => ?_⟩
              cases hjj : listed.getD j true with
              | true => rfl
              | false => exact absurd ⟨j, hj, hjj⟩ h
        obtain ⟨om, hom⟩ : ∃ o, l[m]? = some o := ⟨_, List.getElem?_eq_getElem (by omega)⟩
        have hready : m ∈ Region.ready .any l.toArray listed := mem_ready.2 ⟨by simp; omega, hm.2, om, by simpa using hom, fun e he hb => by
          have := g.low m om (by simpa using hom) e he hb
          rw [← getD_tf (by omega)]
          exact hmin _ this⟩
        refine ⟨fun h => (by rw [h] at hready; cases hready), fun i hi => ?_⟩
        obtain ⟨hi1, hi2, o, ho, hi3⟩ := mem_ready.1 hi
        have hi1 : i < l.length := by simpa using hi1
        have hol : l[i]? = some o := by simpa using ho
        have hin : i < n := by
          rcases Nat.lt_trichotomy i n with h | h | h
          · exact h
          · -- all that it waits for, and so all, are listed
            subst h
            have hall : ∀ d k, i - k = d → k < i → listed.getD k true = true := by
              intro d
              induction d using Nat.strongRecOn with
              | _ d ihd =>
                intro k hd hk
                by_cases hpk : k ∈ pre
                · exact hP k hpk
                obtain ⟨j, hkj, hji, oj, hoj, hwj⟩ := g.sink (by simpa using hi1) k hk hpk
                obtain ⟨e, he, hb, heq⟩ := waits_spec hwj
                rw [getD_tf (by omega), ← heq]
                rcases Nat.lt_or_ge j i with hlt | hge
                · have hjl := ihd (i - j) (by omega) j rfl hlt
                  exact hc j oj (by omega) hjl (by simpa using hoj) e he hb
                · have : j = i := by omega
                  subst this
                  rw [ho] at hoj
                  cases hoj
                  exact hi3 e he hb
            have := hall _ m rfl hm.1
            rw [hm.2] at this
            cases this
          · obtain ⟨e, he, hb, heq⟩ := waits_spec (g.chain i o h (by simpa using hol))
            have := hi3 e he hb
            rw [heq, ← getD_tf (by omega), ht (i - 1) (by omega) (by omega)] at this
            cases this
        obtain ⟨v, hv, hcase⟩ := hk i o (by simp [hin, hol])
        have hAi := agree_frames D huniq a i (by omega)
        have hsame := same_op (ops := l.toArray) (o := o) (a := frames (D.take i) a) (a' := a') (g.noSel i o ho) (by
          intro t htl
          by_cases hw : ∃ (k : Nat) (u : Value), F σ k = some (some t, u)
          · obtain ⟨k, u, hku⟩ := hw
            obtain ⟨hkn, ok, hok', hdk⟩ := hFd σ k _ u hku
            have hnk : k ∉ nw := fun hnk => g.newApart k hnk ok t (by simpa using hok') hdk i o hin ho htl
            have hDu : D[k]? = some (some t, u) := by rw [hF, if_neg hnk] at hku; exact hku
            by_cases hts : t < a.tmps.size
            · have hki : k ≠ i := fun e => by
                subst e
                rw [hol] at hok'
                cases hok'
                exact g.own k o t hkn ho hdk htl
              rcases (g.pair k i ok o t hkn hin hki (by simpa using hok') ho hdk).2 with h1 | ⟨hlt, hwt⟩ | ⟨hlt, hwt⟩
              · exact absurd htl h1
              · obtain ⟨e, he, hb, heq⟩ := waits_spec hwt
                have hkl : listed.getD k true = true := by
                  rw [getD_tf (by omega), ← heq]; exact hi3 e he hb
                rw [hA.wrote k t u ⟨hkn, hkl⟩ hku hts, hAi.wrote k t u hlt hDu hts]
              · obtain ⟨e, he, hb, heq⟩ := waits_spec hwt
                have hkl : ¬ listed.getD k true = true := fun hkl => by
                  have := hc k ok (by omega) hkl hok' e he hb
                  rw [heq, ← getD_tf (by omega), hi2] at this
                  cases this
                rw [hA.kept t fun k' u' hk' hD' => ?_, hAi.kept t fun k' u' hk' hD' => ?_]
                · by_cases hkk : k' = k
                  · subst hkk; omega
                  · exact huniq k k' t u' u hkk hD' hDu
                · by_cases hkk : k' = k
                  · subst hkk; exact hkl hk'.2
                  · exact hFu σ k k' t u' u hkk hD' hku
            · rw [Array.getElem?_eq_none (show a'.tmps.size ≤ t from by rw [hA.size]; exact Nat.le_of_not_lt hts), Array.getElem?_eq_none (show (frames (D.take i) a).tmps.size ≤ t from by rw [hAi.size]; exact Nat.le_of_not_lt hts)]
          · rw [hA.kept t fun k v _ hkv => hw ⟨k, v, hkv⟩, hAi.kept t fun k v _ hkv => ?_]
            obtain ⟨_, hnk, _⟩ := hDd k t v hkv
            exact hw ⟨k, v, by rw [hF, if_neg hnk]; exact hkv⟩)
        have hset : ∀ k b, (listed.setIfInBounds i true).getD k b = if k = i then true else listed.getD k b := by
          intro k b
          by_cases hki : k = i
          · subst hki; simp [hs, hi1]
          · have : i ≠ k := Ne.symm hki
            simp [Array.getElem?_setIfInBounds_ne this, hki]
        have next : ∀ (σ' : Sig) (u : Value) w'', F σ' i = some (o.dst, u) → Agree (F σ') (fun k => k < n ∧ listed.getD k true = true) a a' → (∀ k ∈ nw, (listed.setIfInBounds i true).getD k true = true → (σ' k).isSome = true) → (∀ k ∈ tw, ((listed.setIfInBounds i true).getD k true = true → (σ' k).isSome = true) ∧ ((listed.setIfInBounds i true).getD k true = false → σ' k = none)) → S σ' w'' →
            wpAny P .any l.toArray Q fuel (listed.setIfInBounds i true) (a'.put o.dst u) w'' := by
          intro σ' u w'' hFi hA' hσ' hτ' hSw''
          refine ih _ _ w'' σ' (by simpa using hs) (by have := left_set (j := i) (by omega) hi2; omega) ?_ ?_ hσ' hτ' (fun p hp => by rw [hset]; split <;> first | rfl | exact hP p hp) ?_ hSw''
          · intro j hj hjl
            rw [hset, if_neg (by omega)]
            exact ht j hj hjl
          · intro k ok hkl hkt hok' e he hb
            rw [hset]
            split
            · rfl
            · rw [hset] at hkt
              by_cases hki : k = i
              · subst hki
                rw [hol] at hok'
                cases hok'
                exact hi3 e he hb
              · rw [if_neg hki] at hkt
                exact hc k ok hkl hkt hok' e he hb
          · have := hA'.put (j := i) hFi (fun k t u' hki hD' e => hFu σ' i k t u' u hki hD' (by rw [hFi, e]))
            refine ⟨this.defers, this.size, fun k t u hk => this.wrote k t u ?_, fun t ht => this.kept t fun k u hk => ht k u ?_⟩
            · obtain ⟨h1, h2⟩ := hk
              rw [hset] at h2
              by_cases hki : k = i
              · exact .inr hki
              · rw [if_neg hki] at h2; exact .inl ⟨h1, h2⟩
            · rw [hset]
              rcases hk with ⟨h1, h2⟩ | rfl
              · exact ⟨h1, by split <;> first | rfl | exact h2⟩
              · exact ⟨hin, by simp⟩
        have hσset : i ∉ nw → ∀ k ∈ nw, (listed.setIfInBounds i true).getD k true = true → (σ k).isSome = true := fun hni k hk hkl => by
          rw [hset, if_neg (fun (e : k = i) => hni (e ▸ hk))] at hkl
          exact hσ k hk hkl
        have hτset : i ∉ tw → ∀ k ∈ tw, ((listed.setIfInBounds i true).getD k true = true → (σ k).isSome = true) ∧ ((listed.setIfInBounds i true).getD k true = false → σ k = none) := fun hni k hk => by
          rw [hset, if_neg (fun (e : k = i) => hni (e ▸ hk))]
          exact hτ k hk
        unfold wpOp
        simp only [ho]
        rcases hcase with ⟨hni, hn1⟩ | ⟨hni, hw1, hc1⟩ | ⟨hni, hw1, rfl⟩
        · have hg := g.newPlain i hni o ho
          rw [show Region.wanted o (yielded l.toArray a'.tmps) = true by simp [Region.wanted, hg]]
          refine .inl (hn1.at hsame.1 (by rw [hAi.size, hA.size]) hSw _ _ fun u w'' hSu => ?_)
          refine next (σ.upd i u) u w'' (by rw [hF, if_pos hni, hol]; simp [Sig.upd]) ?_ ?_ ?_ hSu
          · have hne : ∀ k, (k < n ∧ listed.getD k true = true) → F (σ.upd i u) k = F σ k := fun k hk => by
              have hki : k ≠ i := fun e => by subst e; rw [hi2] at hk; cases hk.2
              rw [hF, hF]
              simp [Sig.upd, hki]
            exact ⟨hA.defers, hA.size, fun k t u' hk hD' => hA.wrote k t u' hk (by rw [← hne k hk]; exact hD'), fun t ht => hA.kept t fun k u' hk => by rw [← hne k hk]; exact ht k u' hk⟩
          · intro k hk hkl
            by_cases hki : k = i
            · simp [Sig.upd, hki]
            · rw [hset, if_neg hki] at hkl
              simpa [Sig.upd, hki] using hσ k hk hkl
          · intro k hk
            have hki : k ≠ i := fun e => (htw k hk).2.1 (e ▸ hni)
            rw [hset, if_neg hki]
            simpa [Sig.upd, hki] using hτ k hk
        · rw [hsame.2, hw1]
          by_cases hit : i ∈ tw
          · refine .inl (hc1.at hsame.1 (by rw [hAi.size, hA.size]) hSw (fun hit => (hτ i hit).2 hi2) _ _ fun w'' hSu => next (σ.upd i v) v w'' (by rw [hF, if_neg hni]; exact hDk i o v hin hni hol hv) ?_ ?_ ?_ (by rw [trk, if_pos hit] at hSu; exact hSu))
            · have hne : ∀ k, (k < n ∧ listed.getD k true = true) → F (σ.upd i v) k = F σ k := fun k hk => by
                have hki : k ≠ i := fun e => by subst e; rw [hi2] at hk; cases hk.2
                rw [hF, hF]
                simp [Sig.upd, hki]
              exact ⟨hA.defers, hA.size, fun k t u' hk hD' => hA.wrote k t u' hk (by rw [← hne k hk]; exact hD'), fun t ht => hA.kept t fun k u' hk => by rw [← hne k hk]; exact ht k u' hk⟩
            · intro k hk hkl
              by_cases hki : k = i
              · simp [Sig.upd, hki]
              · rw [hset, if_neg hki] at hkl
                simpa [Sig.upd, hki] using hσ k hk hkl
            · intro k hk
              rw [hset]
              by_cases hki : k = i
              · simp [Sig.upd, hki]
              · rw [if_neg hki]
                simpa [Sig.upd, hki] using hτ k hk
          · exact .inl (hc1.at hsame.1 (by rw [hAi.size, hA.size]) hSw (fun hit => (hτ i hit).2 hi2) _ _ fun w'' hSu => next σ v w'' (by rw [hF, if_neg hni]; exact hDk i o v hin hni hol hv) hA (hσset hni) (hτset hit) (by rw [trk, if_neg hit] at hSu; exact hSu))
        · rw [hsame.2, hw1]
          have hit : i ∉ tw := fun hit => by
            have := (htw i hit).2.2.2 o hol
            simp [Region.wanted, this] at hw1
          exact next σ undef w' (by rw [hF, if_neg hni]; exact hDk i o undef hin hni hol hv) hA (hσset hni) (hτset hit) hSw
  refine main _ listed0 a0 w Sig.no hs0 rfl (fun j hnj hj => ?_) (fun k o hk hkt ho e he hb => ?_) (fun k hk hkt => ?_) (fun k hk => ?_) hp0 ?_ hS
  · cases hjj : listed0.getD j true with
    | false => rfl
    | true =>
      have := (g.preAny j (hl0 j hj hjj)).1
      omega
  · obtain ⟨_, _, o', ho', _, haf⟩ := g.preAny k (hl0 k hk hkt)
    obtain rfl : o' = o := by simpa [ho] using ho'.symm
    have := g.low k o' (by simpa using ho) e he hb
    rw [← getD_tf (by omega)]
    exact hp0 _ (haf e he hb)
  · exact absurd hk (g.preAny k (hl0 k (by have := g.newLt k hk; omega) hkt)).2.1
  · exact ⟨fun hkt => absurd (hl0 k (by have := (htw k hk).1; omega) hkt) (htw k hk).2.2.1, fun _ => rfl⟩
  · have step : ∀ (r done : List Nat) (a1 : Act), preOk l.toArray n nw done r = true → PreRun P l r a1 a0 → Agree (F Sig.no) (fun k => k ∈ done) a a1 →
        (∀ k ∈ done, ∀ o, l[k]? = some o → ∀ e ∈ o.after, Region.binds .any e = true → e.on ∈ done) → Agree (F Sig.no) (fun k => k ∈ r ∨ k ∈ done) a a0 := by
      intro r
      induction r with
      | nil =>
        intro done a1 _ hr hA _
        obtain rfl : a0 = a1 := hr
        simpa using hA
      | cons p r ih =>
        intro done a1 hpo hr hA hcl
        obtain ⟨hpn, hpw, hpd, ⟨o, hop, hgd, haf⟩, hpo'⟩ := preOk_cons hpo
        have hop : l[p]? = some o := by simpa using hop
        obtain ⟨o', v, ho', hrun, hr'⟩ := hr
        obtain rfl : o' = o := by simpa [hop] using ho'.symm
        obtain ⟨u, hu, hcase⟩ := hk p o' (by simp [hpn, hop])
        have hAi := agree_frames D huniq a p (by omega)
        have hsame := same_op (ops := l.toArray) (o := o') (a := a1) (a' := frames (D.take p) a) (g.noSel p o' (by simpa using hop)) (by
          intro t htl
          by_cases hts : t < a.tmps.size
          · by_cases hw : ∃ (k : Nat) (u : Value), F Sig.no k = some (some t, u)
            · obtain ⟨k, x, hkx⟩ := hw
              obtain ⟨hkn, ok, hok', hdk⟩ := hFd Sig.no k _ x hkx
              have hnk : k ∉ nw := fun hnk => g.newApart k hnk ok t (by simpa using hok') hdk p o' hpn (by simpa using hop) htl
              have hDu : D[k]? = some (some t, x) := by rw [hF, if_neg hnk] at hkx; exact hkx
              have hkp : k ≠ p := fun e => by
                subst e
                rw [hop] at hok'
                cases hok'
                exact g.own k o' t hkn (by simpa using hop) hdk htl
              rcases (g.pair k p ok o' t hkn hpn hkp (by simpa using hok') (by simpa using hop) hdk).2 with h1 | ⟨hlt, hwt⟩ | ⟨hlt, hwt⟩
              · exact absurd htl h1
              · obtain ⟨e, he, hb, heq⟩ := waits_spec hwt
                have hkd : k ∈ done := heq ▸ haf e he hb
                rw [hA.wrote k t x hkd hkx hts, hAi.wrote k t x hlt hDu hts]
              · obtain ⟨e, he, hb, heq⟩ := waits_spec hwt
                have hkd : k ∉ done := fun hkd => hpd (heq ▸ hcl k hkd ok hok' e he hb)
                rw [hA.kept t fun k' u' hk' hD' => ?_, hAi.kept t fun k' u' hk' hD' => ?_]
                · by_cases hkk : k' = k
                  · subst hkk; omega
                  · exact huniq k k' t u' x hkk hD' hDu
                · by_cases hkk : k' = k
                  · subst hkk; exact hkd hk'
                  · exact hFu Sig.no k k' t u' x hkk hD' hkx
            · rw [hA.kept t fun k v _ hkv => hw ⟨k, v, hkv⟩, hAi.kept t fun k v _ hkv => ?_]
              obtain ⟨_, hnk, _⟩ := hDd k t v hkv
              exact hw ⟨k, v, by rw [hF, if_neg hnk]; exact hkv⟩
          · rw [Array.getElem?_eq_none (show (frames (D.take p) a).tmps.size ≤ t from by rw [hAi.size]; exact Nat.le_of_not_lt hts), Array.getElem?_eq_none (show a1.tmps.size ≤ t from by rw [hA.size]; exact Nat.le_of_not_lt hts)])
        have hput : a1.put o'.dst v = a1.put o'.dst u := by
          rcases hcase with ⟨hni, _⟩ | ⟨_, _, hc1⟩ | ⟨_, hw1, _⟩
          · exact absurd hni hpw
          · have h1 := hc1.at (a' := a1) hsame.1.symm (by rw [hAi.size, hA.size]) hS (fun _ => rfl) (fun a2 _ => a2 = a1.put o'.dst u) (fun _ _ _ => False) (fun _ _ => rfl)
            unfold Oper.wp at h1
            rw [hrun w] at h1
            simpa only [Oper.upon] using h1
          · exfalso
            simp [Region.wanted, hgd] at hw1
        rw [hput] at hr'
        have hFp : F Sig.no p = some (o'.dst, u) := by rw [hF, if_neg hpw]; exact hDk p o' u hpn hpw hop hu
        have hA' := hA.put (j := p) hFp (fun k t u' hki hD' e => hFu Sig.no p k t u' u hki hD' (by rw [hFp, e]))
        have hA2 : Agree (F Sig.no) (fun k => k ∈ p :: done) a (a1.put o'.dst u) :=
          ⟨hA'.defers, hA'.size, fun k t x hk => hA'.wrote k t x (by
            rcases List.mem_cons.1 hk with h | h
            · exact .inr h
            · exact .inl h), fun t ht => hA'.kept t fun k x hk => ht k x (by
            rcases hk with h | h
            · exact List.mem_cons_of_mem _ h
            · exact h ▸ List.mem_cons_self ..)⟩
        have := ih (p :: done) _ hpo' hr' hA2 (fun k hk o ho e he hb => by
          rcases List.mem_cons.1 hk with rfl | hk
          · rw [hop] at ho
            cases ho
            exact List.mem_cons_of_mem _ (haf e he hb)
          · exact List.mem_cons_of_mem _ (hcl k hk o ho e he hb))
        refine ⟨this.defers, this.size, fun k t x hk => this.wrote k t x ?_, fun t ht => this.kept t fun k x hk => ht k x ?_⟩
        · rcases hk with hk | hk
          · rcases List.mem_cons.1 hk with rfl | hk
            · exact .inr (List.mem_cons_self ..)
            · exact .inl hk
          · exact .inr (List.mem_cons_of_mem _ hk)
        · rcases hk with hk | hk
          · exact .inl (List.mem_cons_of_mem _ hk)
          · rcases List.mem_cons.1 hk with rfl | hk
            · exact .inl (List.mem_cons_self ..)
            · exact .inr hk
    have h0 : Agree (F Sig.no) (fun k => k ∈ ([] : List Nat)) a a := ⟨rfl, rfl, fun k t v hk _ _ => (by cases hk), fun t _ => rfl⟩
    have := step pre [] a g.preOrd ha0 h0 (fun k hk => by cases hk)
    refine ⟨this.defers, this.size, fun k t x hk => this.wrote k t x (.inl (hl0 k (by omega) hk.2)), fun t ht => this.kept t fun k x hk => ht k x ?_⟩
    rcases hk with hk | hk
    · exact ⟨(g.preAny k hk).1, hp0 k hk⟩
    · cases hk

theorem wp_region_new {id : Nat} {Q : Exit → Act → World → Prop} {a : Act} {w : World} {l : List Oper} (S : Sig → World → Prop) (n : Nat) (nw tw : List Nat) (htw : ∀ k ∈ tw, k < n ∧ k ∉ nw ∧ ∀ o, l[k]? = some o → o.guard = none) (hm : P.follows .mixedOrders = true) (hok : calmOk l.toArray n nw = true) (hS : S Sig.no w.drew)
    (h : calm P l.toArray S nw tw (fun a' => ∀ σ w', (∀ k ∈ nw, (σ k).isSome = true) → (∀ k ∈ tw, (σ k).isSome = true) → S σ w' → wpList P l.toArray Q (l.drop n) (putNew l nw σ a') w') 0 (l.take n) a) : (Code.region id l.toArray true).wp P Q a w := by
  refine wp_region_any hm ?_
  have hl := left_none l.toArray.size
  have := wpAny_new (a0 := a) S n nw tw [] (fun k hk => ⟨(htw k hk).1, (htw k hk).2.1, by simp, (htw k hk).2.2⟩) hok hS h (Array.replicate l.toArray.size false) (by simp) (fun k hk hkt => by simp [hk] at hkt) (fun p hp => by cases hp) rfl
  rw [hl] at this
  exact this


theorem calm_value {R : Act → Prop} {a : Act} {o : Oper} {rest : List Oper} {i : Nat} {v : Value} (hi : i ∉ nw) (ht : i ∉ tw) (hw : Region.wanted o (yielded ops a.tmps) = true) (h1 : ∀ σ w, S σ w → (execOp a.eval o).run P w = .ok (.value v) w) (h : calm P ops S nw tw R (i + 1) rest (a.put o.dst v)) : calm P ops S nw tw R i (o :: rest) a :=
  calm_step v hi hw (fun σ w hS _ K Q hK => by unfold Oper.wp; rw [h1 σ w hS]; exact hK w (by rw [trk, if_neg ht]; exact hS)) h
theorem calm_track {R : Act → Prop} {a : Act} {o : Oper} {rest : List Oper} {i : Nat} {v : Value} (hi : i ∉ nw) (ht : i ∈ tw) (hw : Region.wanted o (yielded ops a.tmps) = true) (h1 : ∀ σ w, S σ w → σ i = none → ∃ w', (execOp a.eval o).run P w = .ok (.value v) w' ∧ S (σ.upd i v) w') (h : calm P ops S nw tw R (i + 1) rest (a.put o.dst v)) : calm P ops S nw tw R i (o :: rest) a :=
  calm_step v hi hw (fun σ w hS hf K Q hK => by
    obtain ⟨w', hr, hs⟩ := h1 σ w hS (hf ht)
    unfold Oper.wp
    rw [hr]
    exact hK w' (by rw [trk, if_pos ht]; exact hs)) h
end
end Go.Proofs.Ytpbodonmiepilaa.Trk
/- A call that changes what there is, in a region that draws its order. -/
namespace Go.Proofs.Ytpbodonmiepilaa

section
variable {P : Program} {ops : Array Oper} {S : Sig → World → Prop} {nw tw : List Nat} {R : Act → Prop} {a : Act} {o : Oper} {rest : List Oper} {i : Nat}
/-- A call whose value is known, of which S is told. -/
theorem kcalm_call {v : Value} {f : FuncId} {args : Array Value} (hi : i ∉ nw) (hit : i ∈ tw) (hw : Region.wanted o (yielded ops a.tmps) = true) (hr : ∀ w, (execOp a.eval o).run P w = .ok (.enter f args) w)
    (hc : ∀ σ w, S σ w → σ i = none → Calls P f args w fun e w' => e = .returned v ∧ S (σ.upd i v) w') (h : Trk.calm P ops S nw tw R (i + 1) rest (a.put o.dst v)) : Trk.calm P ops S nw tw R i (o :: rest) a :=
  Trk.calm_step v hi hw (fun σ w hS hf K Q hK => by
    unfold Oper.wp
    rw [hr w]
    refine (hc σ w hS (hf hit)).mono ?_
    rintro e w' ⟨rfl, hS'⟩
    exact hK w' (by rw [Trk.trk, if_pos hit]; exact hS')) h
end
section
variable {P : Program} {ops : Array Oper} {S : Sig → World → Prop} {nw : List Nat} {R : Act → Prop} {a : Act} {o : Oper} {rest : List Oper} {i : Nat}
theorem ncalm_call {f : FuncId} {args : Array Value} (hi : i ∈ nw) (hr : ∀ w, (execOp a.eval o).run P w = .ok (.enter f args) w)
    (hc : ∀ σ w, S σ w → Calls P f args w fun e w' => ∃ v, e = .returned v ∧ S (σ.upd i v) w') (h : calm P ops S nw R (i + 1) rest a) : calm P ops S nw R i (o :: rest) a :=
  calm_new hi (fun σ w hS K Q hK => by
    unfold Oper.wp
    rw [hr w]
    refine (hc σ w hS).mono ?_
    rintro e w' ⟨v, rfl, hS'⟩
    exact hK v w' hS') h
end
end Go.Proofs.Ytpbodonmiepilaa
/- inflate, the document's: the walks of take, table, sym. -/
namespace Go.Proofs.Ytpbodonmiepilaa
open Go.RowKit

theorem tkV_bd {s : ByteArray} {n k : Nat} (hk : k ≤ 16) : 0 ≤ tkV s n k ∧ tkV s n k < 65536 := by
  unfold tkV
  split
  · have h := valOf_bd (((textBits s).drop n).take (k : Int).toNat)
    refine ⟨h.1, Int.lt_of_lt_of_le h.2 ?_⟩
    have hl : (((textBits s).drop n).take (k : Int).toNat).length ≤ 16 := by simp; omega
    exact pow2_le hl
  · omega
set_option maxHeartbeats 800000 in
theorem rtk_any {w0 w : World} {ps : List Piece} {g rg n : Nat} {s : ByteArray} {out : List Int} {most e : Int} (k : Nat) (hk : k ≤ 16) (H : Own w0 w (Sta g rg s n out most e :: ps)) (hs : s.size ≤ 1000000) (hn : n ≤ 8 * s.size) :
    Calls Try.prog 40 #[.pointer (some ⟨g, 0, none⟩), .int .i64 k] w (Ret fun r w' => ∃ v n' e', r = .int .i64 v ∧ 0 ≤ v ∧ v < 65536 ∧ n' ≤ 8 * s.size ∧ (e ≠ 0 → e' = e ∧ v = 0) ∧ (e = 0 → GotR (takeG (textBits s) k n) v n' e') ∧ Own w0 w' (Sta g rg s n' out most e' :: ps)) := by
  by_cases he : e = 0
  · subst he
    obtain ⟨hg, hn', -⟩ := tk_got (s := s) (n := n) (k := k) (by omega) hn
    obtain ⟨hv0, hv1⟩ := tkV_bd (s := s) (n := n) hk
    replace hg : GotR (takeG (textBits s) k n) (tkV s n k) (tkN s n k) (tkE s n k 0) := by simpa [tkE] using hg
    refine (rtake_tk k hk H hs hn).mono ?_
    rintro e1 w1 ⟨_, rfl, rfl, H1⟩
    exact ⟨_, rfl, _, _, _, rfl, hv0, hv1, hn', fun h => absurd rfl h, fun _ => hg, H1⟩
  · obtain ⟨a, c, b, h1, h2, H⟩ := H.sta
    have c0 := H.cells
    have hb : (e == 0) = false := by simp [he]
    have hb2 : (e != 0) = true := by simp [he]
    go_enter Try.func40, Try.ntmps40
    go_wp2
    go_ret
    exact ⟨_, rfl, 0, n, e, rfl, by omega, by omega, hn, fun _ => ⟨rfl, rfl⟩, fun h => absurd h he, H.unsta rfl⟩
/-- What a symbol's taking yields. -/
def SymP (w0 : World) (ps : List Piece) (g rg : Nat) (s : ByteArray) (n : Nat) (l out : List Int) (most e : Int) (r : Value) (w' : World) : Prop :=
  ∃ x n' e', r = .int .i64 x ∧ 0 ≤ x ∧ x ≤ 1000000 ∧ n' ≤ 8 * s.size ∧ (e ≠ 0 → e' = e ∧ x = 0) ∧ (e = 0 → GotR (symG (textBits s) l n) x n' e') ∧ Own w0 w' (Sta g rg s n' out most e' :: ps)
/-- A code that is read: lengths, and codes. -/
def TabR (w0 : World) (ps : List Piece) (v u : Value) (m : Nat) (l : List Int) : Prop := ∀ w', Own w0 w' ps → Rd w' 1 v m (nums l) ∧ Rd w' 1 u m (nums (codesF l))
set_option maxRecDepth 100000 in
theorem rtable_any {w : World} {v : Value} {n : Nat} {L : List Int} (hr : Rd w 1 v n (nums L)) (hn : n ≤ 1000000) :
    Calls Try.prog 68 #[v] w (Ret fun r w' => ∃ u, r = .agg #[v, u] ∧ Own w w' [slc 3 1 u (cresF L).length (nums (cresF L))]) := by
  obtain ⟨a, c, rfl, hc1, hc2⟩ := hr.shape
  have H := (Own.start w).alloc (.cells #[.slice none 0 0, .slice none 0 0] 109)
  have HC := Lib.hid (rcodes_any (hr.old H) hn)
  clear hr
  go_enter Try.func68, Try.ntmps68
  go_wp2_with fail
  generalize w.alloc _ = w1 at *
  generalize w.heap.size = g at *
  refine HC.out.mono ?_
  rintro e w2 ⟨_, rfl, u, rfl, H2⟩
  have H := (H.join H2).swap
  obtain ⟨a2, c2, rfl, -⟩ := (H.front 1 rfl).rd.shape
  clear H2
  have H : Own w w2 (blk g (.cells #[.slice none 0 0, .slice none 0 0] 109) :: [slc 3 1 (.slice a2 (cresF L).length c2) (cresF L).length (nums (cresF L))]) := H
  go_wp2_with (refine wpList_store_agg (vs := [.slice a n c, .slice a2 (cresF L).length c2]) rfl _ _ rfl rfl H rfl (by kernel_rfl) (by simp) (by simp [Value.oneCell']) rfl ?_; clear H; intro w5 H)
  have c0 := H.cells
  have hld : (loadVar 109 ⟨g, 0, none⟩).run Try.prog w5 = .ok (.agg #[.slice a n c, .slice a2 (cresF L).length c2]) w5 := by
    clear HC
    go_simp
  refine bodyPost_ret (results_cell1 rfl _ _ g _ rfl hld) rfl ?_
  exact ⟨_, rfl, _, rfl, H.drop⟩
theorem dec_e (l : List Int) : ∀ f m c b, (decN l f m c b).2.1 = 0 ∨ (decN l f m c b).2.1 = 2 := by
  intro f
  induction f with
  | zero => intro m c b; right; rfl
  | succ f ih =>
    intro m c b
    cases b with
    | nil => right; rfl
    | cons x t =>
      rw [decN]
      split
      · left; rfl
      · exact ih _ _ _
set_option maxRecDepth 100000 in
set_option maxHeartbeats 1600000 in
theorem rsym_any {w0 w : World} {ps : List Piece} {g rg n m : Nat} {v u : Value} {l : List Int} {s : ByteArray} {out : List Int} {most e : Int} (hT : e = 0 → TabR w0 ps v u m l ∧ (∀ x ∈ l, 0 ≤ x ∧ x ≤ 15) ∧ l.length = m ∧ m ≤ 1000000) (hs : s.size ≤ 1000000) (hn : n ≤ 8 * s.size) (H : Own w0 w (Sta g rg s n out most e :: ps)) :
    Calls Try.prog 69 #[.pointer (some ⟨g, 0, none⟩), .agg #[v, u]] w (Ret fun r w' => SymP w0 ps g rg s n l out most e r w') := by
  obtain ⟨a, c, b, h1, h2, H⟩ := H.sta
  have H := H.alloc (.cells #[v, u] 109)
  go_enter Try.func69, Try.ntmps69
  go_upto_region 1 with (fail)
  generalize w.alloc _ = w1 at *
  generalize w.heap.size = g2 at *
  replace H : Own w0 w1 (RRdr rg s n :: blk g (.cells #[.pointer (some ⟨rg, 0, none⟩), .slice a out.length c, .int .i64 most, .int .i64 e, .bool b] 67) :: slc 5 1 (.slice a out.length c) out.length (bcells out) :: blk g2 (.cells #[v, u] 109) :: ps) := ((H.front 2 rfl).front 2 rfl).front 3 rfl
  have c0 := (H.front 1 rfl).cells
  by_cases he : e = 0
  case neg =>
    have hb : (e == 0) = false := by simp [he]
    have hb2 : (e != 0) = true := by simp [he]
    go_wp2
    go_ret
    exact ⟨_, rfl, show SymP _ _ _ _ _ _ _ _ _ _ _ _ from ⟨0, n, e, rfl, by omega, by omega, hn, fun _ => ⟨rfl, rfl⟩, fun h => absurd h he, ((((H.front 3 rfl).drop).front 2 rfl).front 2 rfl).unsta rfl⟩⟩
  subst he
  obtain ⟨hT1, hT2, hT3, hT4⟩ := hT rfl
  clear hT
  have hg := Lib.hid (sym_got (l := l) (bs := textBits s) (n := n))
  have hu := decN_used (l := l) 15 0 0 ((textBits s).drop n)
  have hxb : 0 ≤ (decF l ((textBits s).drop n)).1 ∧ (decF l ((textBits s).drop n)).1 ≤ 1000000 := by
    have h1 := dec_bd l 15 0 0 ((textBits s).drop n)
    unfold decF
    omega
  have hN : n + (decF l ((textBits s).drop n)).2.2 ≤ 8 * s.size := by
    rw [List.length_drop, textBits_length] at hu
    unfold decF
    omega
  have hx2 : (decF l ((textBits s).drop n)).2.1 = 0 ∨ (decF l ((textBits s).drop n)).2.1 = 2 := dec_e l 15 0 0 _
  have hfd := fun w1 (h : Own w0 w1 (RRdr rg s n :: blk g (.cells #[.pointer (some ⟨rg, 0, none⟩), .slice a out.length c, .int .i64 most, .int .i64 0, .bool b] 67) :: slc 5 1 (.slice a out.length c) out.length (bcells out) :: blk g2 (.cells #[v, u] 109) :: ps)) => find_any hT2 hT3 hT4 (by omega) hn (fun k wz hz => hT1 wz hz.drop.drop.drop.drop) h
  clear hu hT2
  obtain ⟨va, vc, rfl, -⟩ := ((hT1 _ H.drop.drop.drop.drop).1).shape
  obtain ⟨ua, uc, rfl, -⟩ := ((hT1 _ H.drop.drop.drop.drop).2).shape
  obtain ⟨x1, x2, x3, hD⟩ : ∃ x1 x2 x3, Hid (decF l ((textBits s).drop n) = (x1, x2, x3)) := ⟨_, _, _, rfl⟩
  rw [hD.out] at hfd hg hN hxb hx2
  simp only at hN hxb hx2
  have HF := Lib.hid hfd
  replace hx2 := Lib.hid hx2
  clear hfd hT1
  have cR := H.cells
  obtain ⟨M, hM⟩ : ∃ M, Hid (n + x3 = M) := ⟨_, rfl⟩
  rw [hM.out] at HF hg hN
  have hM3 : Hid (IntKind.i64.wrap ((M : Int) - (n : Int)) = (x3 : Int)) := Lib.hid (by have := hM.out; rw [show (M : Int) - (n : Int) = x3 by omega]; exact IntWalk.i64_in _ ⟨by omega, by omega⟩)
  clear hM
  go_upto_region 4 with (fail)
  refine Trk.wp_region_new (fun σ w1 => Own w0 w1 ((if (σ 8).isSome then RRdr rg s M else RRdr rg s n) :: blk g (.cells #[.pointer (some ⟨rg, 0, none⟩), .slice a out.length c, .int .i64 most, .int .i64 0, .bool b] 67) :: slc 5 1 (.slice a out.length c) out.length (bcells out) :: blk g2 (.cells #[.slice va m vc, .slice ua m uc] 109) :: ps)) 13 [] [8] (by intro k hk; simp at hk; subst hk; exact ⟨by omega, by simp, fun o ho => by simp at ho; subst ho; rfl⟩) (by kernel_rfl) (by kernel_rfl) H.drew ?_
  simp only [List.take_succ_cons, List.take_zero, List.drop_succ_cons, List.drop_zero]
  repeat
    first
    | (refine Trk.calm_value (v := ?_) (by decide) (by decide) rfl (fun σ w1 hS => ?_) ?_
       rotate_left
       · have c0 := (hS.front 1 rfl).cells; have c1 := (hS.front 3 rfl).cells
         first | (go_simp; rfl) | rfl
       simp only [Act.put, List.setIfInBounds_toArray, List.set_cons_zero, List.set_cons_succ])
    | (refine Trk.calm_skip (by decide) rfl ?_
       simp only [Act.put, List.setIfInBounds_toArray, List.set_cons_zero, List.set_cons_succ])
  refine kcalm_call (v := .tuple #[.int .i64 x1, .int .i64 x2]) (by decide) (by decide) rfl (fun w1 => (by go_simp; first | exact ⟨rfl, rfl⟩ | rfl)) (fun σ w1 hS hn => ?_) ?_
  · rw [hn] at hS
    refine (HF.out _ hS).mono ?_
    rintro e w2 ⟨_, rfl, rfl, h2⟩
    refine ⟨rfl, ?_⟩
    simpa [Sig.upd] using h2
  simp only [Act.put, List.setIfInBounds_toArray, List.set_cons_zero, List.set_cons_succ]
  repeat
    first
    | (refine Trk.calm_value (v := ?_) (by decide) (by decide) rfl (fun σ w1 hS => ?_) ?_
       rotate_left
       · skip
         first | (go_simp; rfl) | rfl
       simp only [Act.put, List.setIfInBounds_toArray, List.set_cons_zero, List.set_cons_succ])
    | (refine Trk.calm_skip (by decide) rfl ?_
       simp only [Act.put, List.setIfInBounds_toArray, List.set_cons_zero, List.set_cons_succ])
  refine Trk.calm_nil ?_
  intro σ wd _ hσ HD
  have h8 := hσ 8 (by decide)
  rw [if_pos h8] at HD
  clear H hσ h8 c0 cR HF hD
  simp only [putNew, List.foldl_nil]
  have c0 := (HD.front 1 rfl).cells
  have cR := HD.cells
  have H : Own w0 wd (blk g (.cells #[.pointer (some ⟨rg, 0, none⟩), .slice a out.length c, .int .i64 most, .int .i64 0, .bool b] 67) :: slc 5 1 (.slice a out.length c) out.length (bcells out) :: RRdr rg s M :: ps) := (((HD.front 3 rfl).drop).front 2 rfl).front 2 rfl
  rcases hx2.out with h | h
  · have hx2b : (x2 != 0) = false := by simp [h]
    have hx2c : (x2 == 0) = true := by simp [h]
    have hx2d : Hid (fltF false x2 (fltF false 2 0) = x2) := Lib.hid (by rw [flt_no, flt_no, h])
    clear hx2 h
    have K1 := Lib.hid (rran_any (g := g) (rg := rg) false (H.unsta rfl))
    go_wp2_with fail
    refine K1.out.mono ?_
    rintro e w2 ⟨_, rfl, H2⟩
    have K2 := Lib.hid (rfault_any (g := g) (rg := rg) false x2 H2)
    go_wp2_with fail
    refine K2.out.mono ?_
    rintro e w3 ⟨_, rfl, H3⟩
    rw [hx2d.out] at H3
    go_wp2
    go_ret
    exact ⟨_, rfl, show SymP _ _ _ _ _ _ _ _ _ _ _ _ from ⟨x1, M, x2, rfl, hxb.1, hxb.2, hN, fun h => absurd rfl h, fun _ => hg.out, H3⟩⟩
  · have hx2b : (x2 != 0) = true := by simp [h]
    have hx2c : (x2 == 0) = false := by simp [h]
    have hM4 := hM3.out
    by_cases h15 : (x3 : Int) < 15
    · have hx2d : Hid (fltF true x2 (fltF true 2 0) = x2) := Lib.hid (by rw [flt_yes, flt_ne (by decide), h])
      clear hx2 h
      have K1 := Lib.hid (rran_any (g := g) (rg := rg) true (H.unsta rfl))
      go_wp2_with fail
      refine K1.out.mono ?_
      rintro e w2 ⟨_, rfl, H2⟩
      have K2 := Lib.hid (rfault_any (g := g) (rg := rg) true x2 H2)
      go_wp2_with fail
      refine K2.out.mono ?_
      rintro e w3 ⟨_, rfl, H3⟩
      rw [hx2d.out] at H3
      go_wp2
      go_ret
      exact ⟨_, rfl, show SymP _ _ _ _ _ _ _ _ _ _ _ _ from ⟨x1, M, x2, rfl, hxb.1, hxb.2, hN, fun h => absurd rfl h, fun _ => hg.out, H3⟩⟩
    · have hx2d : Hid (fltF true x2 (fltF false 2 0) = x2) := Lib.hid (by rw [flt_no, flt_yes])
      clear hx2 h
      have K1 := Lib.hid (rran_any (g := g) (rg := rg) false (H.unsta rfl))
      go_wp2_with fail
      refine K1.out.mono ?_
      rintro e w2 ⟨_, rfl, H2⟩
      have K2 := Lib.hid (rfault_any (g := g) (rg := rg) true x2 H2)
      go_wp2_with fail
      refine K2.out.mono ?_
      rintro e w3 ⟨_, rfl, H3⟩
      rw [hx2d.out] at H3
      go_wp2
      go_ret
      exact ⟨_, rfl, show SymP _ _ _ _ _ _ _ _ _ _ _ _ from ⟨x1, M, x2, rfl, hxb.1, hxb.2, hN, fun h => absurd rfl h, fun _ => hg.out, H3⟩⟩
end Go.Proofs.Ytpbodonmiepilaa
/- inflate, the document's: the walk of stored. -/
namespace Go.Proofs.Ytpbodonmiepilaa
open Go.RowKit

/-- What a block of bytes yields. -/
def StoP (w0 : World) (ps : List Piece) (g rg : Nat) (s : ByteArray) (G : Got (List Int)) (most : Int) (w' : World) : Prop :=
  ∃ out' n' e', n' ≤ 8 * s.size ∧ (out'.length : Int) ≤ most ∧ GotR G out' n' e' ∧ Own w0 w' (Sta g rg s n' out' most e' :: ps)
set_option maxRecDepth 100000 in
set_option maxHeartbeats 1600000 in
theorem rstored_any {w0 w : World} {ps : List Piece} {g rg n : Nat} {s : ByteArray} {out : List Int} {most : Int} (hm : 0 ≤ most ∧ most ≤ 1000000) (ho : (out.length : Int) ≤ most) (hs : s.size ≤ 1000000) (hn : n ≤ 8 * s.size) (H : Own w0 w (Sta g rg s n out most 0 :: ps)) :
    Calls Try.prog 42 #[.pointer (some ⟨g, 0, none⟩)] w (Ret fun _ w' => StoP w0 ps g rg s (storedG (textBits s) most out n) most w') := by
  obtain ⟨a, c, b, h1, h2, H⟩ := H.sta
  have c0 := H.cells
  obtain ⟨q, hq⟩ : ∃ q, Hid (nbytes n = q) := ⟨_, rfl⟩
  have hqs : 8 * q ≤ 8 * s.size := by have := hq.out; unfold nbytes at this; omega
  obtain ⟨G, hG⟩ : ∃ G, Hid (storedG (textBits s) most out n = G) := ⟨_, rfl⟩
  rw [hG.out]
  have hG2 : Hid (G = (takeG (textBits s) 16 (8 * q)).bind fun a n1 => (takeG (textBits s) 16 n1).bind fun b n2 =>
    if a + b = 65535 then
      (if n2 + 8 * a.toNat ≤ (textBits s).length then (if most - out.length < a then .bad 12 else .ok (out ++ bytesAt (textBits s) n2 a.toNat) (n2 + 8 * a.toNat)) else .ran)
    else .bad 2) := Lib.hid (by rw [← hG.out]; unfold storedG; rw [hq.out])
  have HA := Lib.hid (rralign_any H.rot3' (by omega))
  rw [hq.out] at HA
  obtain ⟨B, hB⟩ : ∃ B, Hid (textBits s = B) := ⟨_, rfl⟩
  have hBl : Hid (B.length = 8 * s.size) := Lib.hid (by rw [← hB.out, textBits_length])
  go_enter Try.func42, Try.ntmps42
  go_wp2_with fail
  refine HA.out.mono ?_
  rintro e w1 ⟨_, rfl, H1⟩
  clear HA H c0
  have H := H1.rot3.unsta rfl
  clear H1
  have HT := Lib.hid (rtk_any 16 (by omega) H hs hqs)
  go_wp2_with fail
  refine HT.out.mono ?_
  rintro e w2 ⟨_, rfl, v1, n1, e1, rfl, hv1, hv1', hn1, hd1, hg1, H1⟩
  clear hd1
  replace hg1 := Lib.hid (take_got (hg1 trivial))
  clear HT H
  have HT := Lib.hid (rtk_any 16 (by omega) H1 hs hn1)
  go_wp2_with fail
  refine HT.out.mono ?_
  rintro e w3 ⟨_, rfl, v2, n2, e2, rfl, hv2, hv2', hn2, he2, hg2, H2⟩
  replace hg2 := Lib.hid (fun h => take_got (hg2 h))
  replace he2 := Lib.hid he2
  clear HT H1
  have hcase : Hid (e2 = 2 ∧ G = .ran ∨ e2 = 0 ∧ n2 = 8 * (q + 4) ∧ (G = if v1 + v2 = 65535 then
      (if n2 + 8 * v1.toNat ≤ 8 * s.size then (if most - out.length < v1 then .bad 12 else .ok (out ++ bytesAt (textBits s) n2 v1.toNat) (n2 + 8 * v1.toNat)) else .ran)
    else .bad 2)) := Lib.hid (by
      rcases hg1.out with ⟨rfl, e, e', _⟩ | ⟨rfl, e⟩
      · rcases hg2.out rfl with ⟨rfl, f, f', _⟩ | ⟨rfl, f⟩
        · right
          refine ⟨rfl, by omega, ?_⟩
          rw [hG2.out, e, Got.bind_ok, f, Got.bind_ok, textBits_length]
        · left
          refine ⟨rfl, ?_⟩
          rw [hG2.out, e, Got.bind_ok, f]; rfl
      · left
        refine ⟨(he2.out (by decide)).1, ?_⟩
        rw [hG2.out, e]; rfl)
  clear hg1 hg2 he2 hG2
  rcases hcase.out with ⟨rfl, hGr⟩ | ⟨rfl, rfl, hGr⟩
  · replace hGr := Lib.hid hGr
    clear hcase
    obtain ⟨bad, hbad⟩ : ∃ bad, Hid ((v1 + v2 != 65535) = bad) := ⟨_, rfl⟩
    have HH := Lib.hid (rfault_any (g := g) (rg := rg) bad 2 H2)
    rw [flt_ne (by decide)] at HH
    have hbad1 := hbad.out
    go_wp2_with fail
    refine HH.out.mono ?_
    rintro e w4 ⟨_, rfl, H3⟩
    obtain ⟨a, c, b, h1, h2, H4⟩ := H3.sta
    have c0 := H4.cells
    go_wp2
    go_end0
    exact ⟨_, rfl, show StoP _ _ _ _ _ _ _ _ from ⟨out, n2, 2, hn2, ho, by rw [hGr.out]; rfl, H3⟩⟩
  · clear hcase
    by_cases hx3 : v1 + v2 = 65535
    case neg =>
      have hxb : (v1 + v2 != 65535) = true := by simpa using hx3
      have HH := Lib.hid (rfault_any (g := g) (rg := rg) true 2 H2)
      rw [flt_yes] at HH
      rw [if_neg hx3] at hGr
      replace hGr := Lib.hid hGr
      go_wp2_with fail
      refine HH.out.mono ?_
      rintro e w4 ⟨_, rfl, H3⟩
      obtain ⟨a, c, b, h1, h2, H4⟩ := H3.sta
      have c0 := H4.cells
      go_wp2
      go_end0
      exact ⟨_, rfl, show StoP _ _ _ _ _ _ _ _ from ⟨out, _, 2, hn2, ho, by rw [hGr.out]; rfl, H3⟩⟩
    have hxb : (v1 + v2 != 65535) = false := by simpa using hx3
    rw [if_pos hx3] at hGr
    replace hGr := Lib.hid hGr
    clear hx3
    have HH := Lib.hid (rfault_any (g := g) (rg := rg) false 2 H2)
    rw [flt_no] at HH
    go_wp2_with fail
    refine HH.out.mono ?_
    rintro e w4 ⟨_, rfl, H3⟩
    clear H2 HH
    obtain ⟨a, c, b, h1, h2, H⟩ := H3.sta
    have c0 := H.cells
    have HX := Lib.hid (rrtext_any v1 ⟨by omega, by omega⟩ H.rot3' hs hn2)
    go_wp2_with fail
    refine HX.out.mono ?_
    rintro e w5 ⟨_, rfl, rfl, H4⟩
    clear HX H c0 H3
    have H := H4.rot3.unsta rfl
    clear H4
    by_cases ht : txOk s (8 * (q + 4)) v1
    case neg =>
      have ht2 := ht
      unfold txOk at ht2
      rw [nbytes_8] at ht2
      have hGr2 : Hid (G = .ran) := Lib.hid (by rw [hGr.out, if_neg (by omega)])
      rw [decide_eq_false ht]
      simp only [txN, if_neg ht] at H
      have HH := Lib.hid (rran_any (g := g) (rg := rg) true H)
      rw [flt_yes] at HH
      clear hGr ht ht2
      go_wp2_with fail
      refine HH.out.mono ?_
      rintro e w6 ⟨_, rfl, H3⟩
      obtain ⟨a, c, b, h1, h2, H⟩ := H3.sta
      obtain ⟨N, hN⟩ : ∃ N, Hid (out.length = N) := ⟨_, rfl⟩
      rw [hN.out] at H h1 ho
      have hw : IntKind.i64.wrap (most - (N : Int)) = most - N := IntWalk.i64_in _ ⟨by omega, by omega⟩
      obtain ⟨lt, hlt⟩ : ∃ lt, Hid (decide (most - (N : Int) < v1) = lt) := ⟨_, rfl⟩
      go_upto_region 7 with (fail)
      refine wp_region_calm (fun w1 => Own w0 w1 (blk g (.cells #[.pointer (some ⟨rg, 0, none⟩), .slice a N c, .int .i64 most, .int .i64 2, .bool b] 67) :: slc 5 1 (.slice a N c) N (bcells out) :: RRdr rg s (8 * (q + 4)) :: ps)) 13 (by kernel_rfl) (by kernel_rfl) H.drew ?_
      simp only [List.take_succ_cons, List.take_zero, List.drop_succ_cons, List.drop_zero]
      repeat
        first
        | (refine calm_value (v := ?_) (by decide) rfl (fun σ w1 hS => ?_) ?_
           rotate_left
           · have c0 := hS.cells
             first | (go_simp; rfl) | rfl
           simp only [Act.put, List.setIfInBounds_toArray, List.set_cons_zero, List.set_cons_succ])
        | (refine calm_skip (by decide) rfl ?_
           simp only [Act.put, List.setIfInBounds_toArray, List.set_cons_zero, List.set_cons_succ])
      refine calm_nil ?_
      intro wd HD
      rw [hlt.out]
      clear H H3
      have HQ := Lib.hid (rfault_any (g := g) (rg := rg) lt 12 (HD.unsta hN.out.symm))
      rw [flt_ne (by decide)] at HQ
      go_wp2_with fail
      refine HQ.out.mono ?_
      rintro e w7 ⟨_, rfl, H3⟩
      obtain ⟨a, c, b, h1, h2, H4⟩ := H3.sta
      have c0 := H4.cells
      go_wp2
      go_end0
      exact ⟨_, rfl, show StoP _ _ _ _ _ _ _ _ from ⟨out, _, 2, hn2, by rw [hN.out]; exact ho, by rw [hGr2.out]; rfl, H3⟩⟩
    have ht2 := ht
    unfold txOk at ht2
    rw [nbytes_8] at ht2
    obtain ⟨k, rfl⟩ : ∃ k : Nat, v1 = k := ⟨v1.toNat, by omega⟩
    rw [decide_eq_true ht]
    simp only [txN, txV, if_pos ht, nbytes_8, Int.toNat_natCast] at H ⊢
    have hGr2 : Hid (G = if most - out.length < (k : Int) then .bad 12 else .ok (out ++ byteNums (s.extract (q + 4) (q + 4 + k))) (8 * (q + 4 + k))) := Lib.hid (by
      rw [hGr.out, if_pos (by omega)]
      simp only [Int.toNat_natCast]
      rw [bytesAt_text (by omega), show 8 * (q + 4) + 8 * k = 8 * (q + 4 + k) by omega])
    have hts : Hid ((s.extract (q + 4) (q + 4 + k)).size = k) := Lib.hid (by rw [ByteArray.size_extract]; omega)
    obtain ⟨t, htt⟩ : ∃ t, Hid (s.extract (q + 4) (q + 4 + k) = t) := ⟨_, rfl⟩
    rw [htt.out] at hts hGr2
    rw [htt.out]
    have hn3 : 8 * (q + 4 + k) ≤ 8 * s.size := by omega
    have HH := Lib.hid (rran_any (g := g) (rg := rg) false H)
    rw [flt_no] at HH
    clear hGr ht ht2 H
    go_wp2_with fail
    refine HH.out.mono ?_
    rintro e w6 ⟨_, rfl, H3⟩
    clear HH
    obtain ⟨a, c, b, h1, h2, H⟩ := H3.sta
    obtain ⟨N, hN⟩ : ∃ N, Hid (out.length = N) := ⟨_, rfl⟩
    rw [hN.out] at H h1 ho
    have hw : IntKind.i64.wrap (most - (N : Int)) = most - N := IntWalk.i64_in _ ⟨by omega, by omega⟩
    obtain ⟨lt, hlt⟩ : ∃ lt, Hid (decide (most - (N : Int) < (k : Int)) = lt) := ⟨_, rfl⟩
    go_upto_region 7 with (fail)
    refine wp_region_calm (fun w1 => Own w0 w1 (blk g (.cells #[.pointer (some ⟨rg, 0, none⟩), .slice a N c, .int .i64 most, .int .i64 0, .bool b] 67) :: slc 5 1 (.slice a N c) N (bcells out) :: RRdr rg s (8 * (q + 4 + k)) :: ps)) 13 (by kernel_rfl) (by kernel_rfl) H.drew ?_
    simp only [List.take_succ_cons, List.take_zero, List.drop_succ_cons, List.drop_zero]
    repeat
      first
      | (refine calm_value (v := ?_) (by decide) rfl (fun σ w1 hS => ?_) ?_
         rotate_left
         · have c0 := hS.cells
           first | (go_simp; rfl) | rfl
         simp only [Act.put, List.setIfInBounds_toArray, List.set_cons_zero, List.set_cons_succ])
      | (refine calm_skip (by decide) rfl ?_
         simp only [Act.put, List.setIfInBounds_toArray, List.set_cons_zero, List.set_cons_succ])
    refine calm_nil ?_
    intro wd HD
    rw [hlt.out]
    clear H H3
    have HQ := Lib.hid (rfault_any (g := g) (rg := rg) lt 12 (HD.unsta hN.out.symm))
    rw [hN.out] at hGr2
    go_wp2_with fail
    refine HQ.out.mono ?_
    rintro e w7 ⟨_, rfl, H3⟩
    clear HD HQ
    cases lt with
    | true =>
      rw [flt_yes] at H3
      obtain ⟨a, c, b, h1, h2, H4⟩ := H3.sta
      have c0 := H4.cells
      have hGr3 := hGr2.out
      rw [if_pos (of_decide_eq_true hlt.out)] at hGr3
      replace hGr3 := Lib.hid hGr3
      clear hlt hGr2
      go_wp2
      go_end0
      exact ⟨_, rfl, show StoP _ _ _ _ _ _ _ _ from ⟨out, _, 12, by omega, by rw [hN.out]; exact ho, by rw [hGr3.out]; rfl, H3⟩⟩
    | false =>
      rw [flt_no] at H3
      have hlt2 := of_decide_eq_false hlt.out
      have hGr3 := hGr2.out
      rw [if_neg hlt2] at hGr3
      replace hGr3 := Lib.hid hGr3
      clear hGr2 hlt
      obtain ⟨a, c, b, h1, h2, H⟩ := H3.sta
      rw [hN.out] at H h1
      have c0 := H.cells
      have hsz : N + t.size ≤ 140737488355328 := by have := hts.out; omega
      clear H3
      go_wp2_with (first
        | (at_builtin; refine wpList_append_str rfl _ _ rfl Try.underlying54 Try.underlying9 u8Info rfl rfl H.swap rfl hsz ?_; clear H c0; intro v' w' H; replace H := H.swap; obtain ⟨a', c', rfl, h1', h2'⟩ := (H.front 1 rfl).rd.shape)
        | (refine wpList_store_slice rfl _ _ rfl rfl H rfl (by kernel_rfl) (by simp) ?_; clear H; intro w2 H))
      go_end0
      have hlen : (out ++ byteNums t).length = N + t.size := by rw [List.length_append, hN.out, byteNums_length]
      refine ⟨_, rfl, show StoP _ _ _ _ _ _ _ _ from ⟨out ++ byteNums t, 8 * (q + 4 + k), 0, hn3, by rw [hlen, hts.out]; omega, by rw [hGr3.out]; exact ⟨rfl, rfl, rfl⟩, ?_⟩⟩
      have hbc : bcells (out ++ byteNums t) = bcells out ++ byteCells t := by rw [byteCells_nums]; simp [bcells, u8s]
      rw [← hbc] at H
      exact H.unsta hlen.symm
end Go.Proofs.Ytpbodonmiepilaa
/- inflate, the document's: the walk of lengths. -/
namespace Go.Proofs.Ytpbodonmiepilaa
open Go.RowKit

theorem Own.sta_e {w0 w : World} {ps : List Piece} {g rg n : Nat} {s : ByteArray} {out : List Int} {most e : Int} (H : Own w0 w (Sta g rg s n out most e :: ps)) : w.cell? ⟨g, 3, none⟩ = some (.int .i64 e) := by
  obtain ⟨a, c, b, _, _, H⟩ := H.sta
  rw [H.cells]; rfl
theorem lmeas_sta {w0 w : World} {ps : List Piece} {N g rg n : Nat} {s : ByteArray} {l : List Int} {out : List Int} {most e : Int} {a : Option Addr} {c : Nat} (H : Own w0 w (Sta g rg s n out most e :: ps)) : lmeas N (.slice a l.length c) ((w.cell? ⟨g, 3, none⟩).getD undef) = if e = 0 then N + 1 - l.length else 0 := by
  unfold lmeas
  rw [H.sta_e]
  rfl
theorem lst_any {bs : List Bool} {G : Got (List Int)} {T l l' : List Int} {N n n' : Nat} {e : Int} (h : LSt bs G T N l n e) (he : e ≠ 0) : LSt bs G T N l' n' e := ⟨fun h0 => absurd h0 he, h.2⟩
theorem agE_flt {N k : Nat} {l : List Int} {e : Int} : agE N l k e = fltF (decide ((N : Int) - l.length < k)) 2 e := by
  unfold agE fltF
  by_cases h : N < l.length + k
  · rw [if_pos h, decide_eq_true (by omega)]
    simp
  · rw [if_neg h, decide_eq_false (by omega)]
    simp
theorem terr_cerr {l : List Int} (h : terrF l = 0) : cerrF l = 0 := by
  have h3 := (table_ok h).2.2
  unfold cerrF
  unfold terrF at h
  by_cases hm : mayF l = true
  · rw [if_pos hm, if_pos h3]
  · rw [if_neg hm] at h; cases h
theorem lst_lit {bs : List Bool} {G : Got (List Int)} {T l : List Int} {N n1 : Nat} {c e1 : Int} {X Y Z W : Prop} (h : (e1 ≠ 0 → LSt bs G T N l n1 e1) ∧ (e1 = 0 → (c < 16 → LSt bs G T N (l ++ [c]) n1 0) ∧ X ∧ Y ∧ Z ∧ W)) (hc : c < 16) : LSt bs G T N (l ++ [c]) n1 e1 := by
  by_cases he : e1 = 0
  · subst he; exact (h.2 rfl).1 hc
  · exact lst_any (h.1 he) he
theorem agE_ne {N k : Nat} {l : List Int} {e : Int} (h : e ≠ 0) : agE N l k e = e := by rw [agE_flt, flt_ne h]
theorem lst_more {bs : List Bool} {G : Got (List Int)} {T l : List Int} {N n1 n3 j b : Nat} {V x e E : Int}
    (h1 : e = 0 → G = (takeG bs j n1).bind fun v n2 => if N < l.length + (b + v.toNat) then .bad 2 else lengthsG bs T N (l ++ List.replicate (b + v.toNat) x) n2)
    (h2 : e ≠ 0 → ∀ v m, GotR G v m e) (hg : e = 0 → GotR (takeG bs j n1) V n3 E) (hk : e ≠ 0 → E = e) : LSt bs G T N (agL N l (b + V.toNat) x) n3 (agE N l (b + V.toNat) E) := by
  by_cases he : e = 0
  · have hG := h1 he
    rcases take_got (hg he) with ⟨rfl, h3, -, -⟩ | ⟨rfl, h3⟩
    · rw [h3, Got.bind_ok] at hG
      unfold agE agL
      by_cases hx : N < l.length + (b + V.toNat)
      · rw [if_pos hx, if_pos hx, if_pos rfl]
        rw [if_pos hx] at hG
        exact ⟨fun h => absurd h (by decide), fun _ v m => by rw [hG]; rfl⟩
      · rw [if_neg hx, if_neg hx]
        rw [if_neg hx] at hG
        exact ⟨fun _ => hG.symm, fun h => absurd rfl h⟩
    · rw [h3, Got.bind_ran] at hG
      rw [agE_ne (by decide)]
      exact ⟨fun h => absurd h (by decide), fun _ v m => by rw [hG]; rfl⟩
  · rw [hk he, agE_ne he]
    exact ⟨fun h => absurd h he, fun _ => h2 he⟩
/-- What a symbol leads to. -/
def LNext (bs : List Bool) (G : Got (List Int)) (T : List Int) (N : Nat) (l : List Int) (n1 : Nat) (c e1 : Int) : Prop :=
    (e1 ≠ 0 → LSt bs G T N l n1 e1) ∧ (e1 = 0 → (c < 16 → LSt bs G T N (l ++ [c]) n1 0) ∧ (c = 16 → l.length = 0 → ∀ v m, GotR G v m 2) ∧
      (c = 16 → l.length ≠ 0 → G = (takeG bs 2 n1).bind fun v n2 => if N < l.length + (3 + v.toNat) then .bad 2 else lengthsG bs T N (l ++ List.replicate (3 + v.toNat) (l.getD (l.length - 1) 0)) n2) ∧
      (c = 17 → G = (takeG bs 3 n1).bind fun v n2 => if N < l.length + (3 + v.toNat) then .bad 2 else lengthsG bs T N (l ++ List.replicate (3 + v.toNat) 0) n2) ∧
      (17 < c → G = (takeG bs 7 n1).bind fun v n2 => if N < l.length + (11 + v.toNat) then .bad 2 else lengthsG bs T N (l ++ List.replicate (11 + v.toNat) 0) n2))
theorem LNext.get {bs : List Bool} {G : Got (List Int)} {T : List Int} {N : Nat} {l : List Int} {n1 : Nat} {c e1 : Int} (h : LNext bs G T N l n1 c e1) :
    (e1 ≠ 0 → LSt bs G T N l n1 e1) ∧ (e1 = 0 → (c < 16 → LSt bs G T N (l ++ [c]) n1 0) ∧ (c = 16 → l.length = 0 → ∀ v m, GotR G v m 2) ∧
      (c = 16 → l.length ≠ 0 → G = (takeG bs 2 n1).bind fun v n2 => if N < l.length + (3 + v.toNat) then .bad 2 else lengthsG bs T N (l ++ List.replicate (3 + v.toNat) (l.getD (l.length - 1) 0)) n2) ∧
      (c = 17 → G = (takeG bs 3 n1).bind fun v n2 => if N < l.length + (3 + v.toNat) then .bad 2 else lengthsG bs T N (l ++ List.replicate (3 + v.toNat) 0) n2) ∧
      (17 < c → G = (takeG bs 7 n1).bind fun v n2 => if N < l.length + (11 + v.toNat) then .bad 2 else lengthsG bs T N (l ++ List.replicate (11 + v.toNat) 0) n2)) := h
/-- Where lengths stand, if there was no fault ahead. -/
def LInv (bs : List Bool) (G : Got (List Int)) (T : List Int) (N : Nat) (e : Int) (l : List Int) (n1 : Nat) (e1 : Int) : Prop := (e ≠ 0 → e1 = e) ∧ (e = 0 → LSt bs G T N l n1 e1)
/-- What lengths leaves. -/
def RLenP (w0 : World) (ps : List Piece) (g rg : Nat) (s : ByteArray) (n : Nat) (T out : List Int) (most e : Int) (N : Nat) (r : Value) (w' : World) : Prop :=
  ∃ l n' e', n' ≤ 8 * s.size ∧ l.length ≤ N ∧ (e' = 0 → l.length = N) ∧ (e ≠ 0 → e' = e) ∧ (e = 0 → GotR (lengthsG (textBits s) T N [] n) l n' e') ∧ Own w0 w' (slc 3 1 r l.length (nums l) :: Sta g rg s n' out most e' :: ps)

set_option maxRecDepth 100000 in
set_option maxHeartbeats 3200000 in
theorem rlengths_any {w0 w : World} {ps : List Piece} {g rg n m : Nat} {lv : Value} {s : ByteArray} {T out : List Int} {most e : Int} (N : Nat) (hlv : Reads w0 ps 1 lv m (nums T)) (hTm : T.length = m) (hm : m ≤ 1000) (hT : e = 0 → terrF T = 0) (hN : N ≤ 200000) (hs : s.size ≤ 1000000) (hn : n ≤ 8 * s.size) (H : Own w0 w (Sta g rg s n out most e :: ps)) :
    Calls Try.prog 71 #[.pointer (some ⟨g, 0, none⟩), lv, .int .i64 N] w (Ret (RLenP w0 ps g rg s n T out most e N)) := by
  obtain ⟨la, lc, rfl, -⟩ := (hlv w H.drop).shape
  have KT := Lib.hid (rtable_any (hlv w H.drop) (by omega))
  go_enter Try.func71, Try.ntmps71
  go_wp2_with fail
  refine KT.out.mono ?_
  rintro e0 w1 ⟨_, rfl, u, rfl, J⟩
  replace H := H.join J
  clear J KT
  replace H : Own w0 w1 (Sta g rg s n out most e :: slc 3 1 u (cresF T).length (nums (cresF T)) :: ps) := H.swap
  have hC : Hid (e = 0 → cresF T = codesF T ∧ (codesF T).length = m) := Lib.hid (fun h => ⟨by unfold cresF; rw [if_pos (terr_cerr (hT h))], by rw [codesF_length, hTm]⟩)
  obtain ⟨C, hCe⟩ : ∃ C, Hid (cresF T = C) := ⟨_, rfl⟩
  obtain ⟨U, hU⟩ : ∃ U, Hid (C.length = U) := ⟨_, rfl⟩
  rw [hCe.out, hU.out] at H
  rw [hCe.out] at hC
  obtain ⟨ua, uc, rfl, -⟩ := (H.front 1 rfl).rd.shape
  have HTR : Hid (∀ (X : List Piece), e = 0 → TabR w0 (X ++ slc 3 1 (.slice ua U uc) U (nums C) :: ps) (.slice la m lc) (.slice ua U uc) m T ∧ (∀ x ∈ T, 0 ≤ x ∧ x ≤ 15) ∧ T.length = m ∧ m ≤ 1000000) := Lib.hid fun X h => by
    obtain ⟨h1, h2⟩ := hC.out h
    refine ⟨fun w' hw' => ⟨?_, ?_⟩, (table_ok (hT h)).2.1, hTm, by omega⟩
    · exact hlv w' (hw'.skip.drop)
    · have h3 := hw'.skip.rd
      have h4 : U = m := by rw [← hU.out, h1, h2]
      rw [h1, h4] at h3
      rw [h4]
      exact h3
  clear hlv hC hT
  go_upto_block 0 with (refine wpList_store_agg (vs := [.slice la m lc, .slice ua U uc]) rfl _ _ rfl rfl (H.alloc _) rfl (by kernel_rfl) (by simp) (by simp [Value.oneCell']) rfl ?_; clear H; intro w2 H)
  generalize w1.heap.size = tb at *
  obtain ⟨G, hG⟩ : ∃ G, Hid (lengthsG (textBits s) T N [] n = G) := ⟨_, rfl⟩
  replace H : Own w0 w2 (Sta g rg s n out most e :: slc 3 1 (.slice none 0 0) 0 (nums []) :: blk tb (.cells #[.slice la m lc, .slice ua U uc] 109) :: slc 3 1 (.slice ua U uc) U (nums C) :: ps) := (H.nil 3 1).front 2 rfl
  have hst : Hid (LInv (textBits s) G T N e [] n e) := Lib.hid ⟨fun _ => rfl, fun h => by rw [h, ← hG.out]; exact lst_start⟩
  have hpost : Hid (∀ r w', (∃ l n' e', n' ≤ 8 * s.size ∧ l.length ≤ N ∧ (e' = 0 → l.length = N) ∧ (e ≠ 0 → e' = e) ∧ (e = 0 → GotR G l n' e') ∧ Own w0 w' (slc 3 1 r l.length (nums l) :: Sta g rg s n' out most e' :: ps)) → RLenP w0 ps g rg s n T out most e N r w') := Lib.hid fun r w' h => by unfold RLenP; rw [hG.out]; exact h
  clear hG
  simp only [Act.put]
  go_wp2_with fail
  go_loopw [7] (fun v7 wx => ∃ (l : List Int) (n1 : Nat) (e1 : Int), l.length ≤ N ∧ n1 ≤ 8 * s.size ∧ Hid (LInv (textBits s) G T N e l n1 e1) ∧ Own w0 wx (Sta g rg s n1 out most e1 :: slc 3 1 v7 l.length (nums l) :: blk tb (.cells #[.slice la m lc, .slice ua U uc] 109) :: slc 3 1 (.slice ua U uc) U (nums C) :: ps)) (fun v7 wx => lmeas N v7 ((wx.cell? ⟨g, 3, none⟩).getD undef))
  case atStart => exact ⟨[], n, e, by simp, hn, hst, H⟩
  case round =>
    clear H hst hn
    obtain ⟨l, n1, e1, hl, hn1, hst, H⟩ := hrel
    obtain ⟨a, c, rfl, hc1, hc2⟩ := (H.front 1 rfl).rd.shape
    have hm0 := Lib.hid (lmeas_sta (N := N) (l := l) (a := a) (c := c) H)
    obtain ⟨M, hM⟩ : ∃ M, Hid (l.length = M) := ⟨_, rfl⟩
    have ce := H.sta_e
    rw [hM.out] at H hl hm0 hc1 ⊢
    obtain ⟨a1, c1, b1, _, _, HX⟩ := H.sta
    have cX := HX.cells
    by_cases hx : e1 ≠ 0 ∨ N ≤ M
    · have hfin : RLenP w0 ps g rg s n T out most e N (.slice a M c) wr := by
        refine hpost.out _ _ ⟨l, n1, e1, hn1, by rw [hM.out]; exact hl, fun h => by rw [hM.out]; omega, hst.out.1, fun h => lst_end (hst.out.2 h) (hx.imp id fun h => by rw [hM.out]; exact h), ?_⟩
        rw [hM.out]
        exact (((H.front 2 rfl).drop).front 2 rfl).drop.swap
      replace hfin := Lib.hid hfin
      by_cases hlt : M < N
      · have he : (e1 == 0) = false := by simp; omega
        have hlt2 : (M : Int) < N := by omega
        clear hx hst hm0 hpost
        go_wp2
        go_ret
        exact ⟨_, rfl, hfin.out⟩
      · have hlt2 : ¬ (M : Int) < N := by omega
        clear hx hst hm0 hpost
        go_wp2
        go_ret
        exact ⟨_, rfl, hfin.out⟩
    · obtain ⟨he1, hlt⟩ : e1 = 0 ∧ M < N := by omega
      subst he1
      have he : e = 0 := by
        rcases Int.decEq e 0 with h | h
        · exact absurd (hst.out.1 h) (fun h' => h h'.symm)
        · exact h
      subst he
      clear hx
      replace hm0 := Lib.hid (hm0.out.trans (if_pos rfl))
      replace hst := Lib.hid (hst.out.2 rfl)
      have hlt2 : (M : Int) < N := by omega
      have hlN : Hid (l.length < N) := Lib.hid (by rw [hM.out]; exact hlt)
      have HS := Lib.hid (rsym_any (g := g) (rg := rg) (HTR.out (slc 3 1 (.slice a M c) M (nums l) :: [blk tb (.cells #[.slice la m lc, .slice ua U uc] 109)])) hs hn1 H)
      have cT := (H.front 2 rfl).cells
      go_wp2_with fail
      refine HS.out.mono ?_
      rintro e0 w3 ⟨_, rfl, v, n2, e2, rfl, hv0, hv1, hn2, -, hg, H3⟩
      have hpl : Hid (LNext (textBits s) G T N l n2 v e2) := Lib.hid (lst_sym hst.out hlN.out (hg rfl))
      replace H3 : Own w0 w3 (Sta g rg s n2 out most e2 :: slc 3 1 (.slice a M c) M (nums l) :: blk tb (.cells #[.slice la m lc, .slice ua U uc] 109) :: slc 3 1 (.slice ua U uc) U (nums C) :: ps) := H3
      clear HS H hg hst HX cX cT ce
      by_cases hv : v < 16
      · have hst := Lib.hid (lst_lit hpl.out.get hv)
        clear hpl
        replace H3 := H3.swap
        go_wp2_with (at_builtin; refine wpList_append_one rfl _ _ rfl Try.underlying22 intInfo rfl (by decide) rfl H3 rfl rfl rfl (by simp [Value.oneCell']) (by omega) (by omega) ?_; clear H3; intro v' w' H; obtain ⟨a', c', rfl, h1', h2'⟩ := H.rd.shape)
        have hlen : M + 1 = (l ++ [v]).length := by rw [List.length_append, hM.out]; rfl
        have H4 : Own w0 w' (Sta g rg s n2 out most e2 :: slc 3 1 (.slice a' (M + 1) c') (l ++ [v]).length (nums (l ++ [v])) :: blk tb (.cells #[.slice la m lc, .slice ua U uc] 109) :: slc 3 1 (.slice ua U uc) U (nums C) :: ps) := by rw [← hlen, ← nums_append]; exact H.swap
        clear H
        go_roundw
        case rel => exact ⟨l ++ [v], n2, e2, by omega, hn2, Lib.hid ⟨fun h => absurd rfl h, fun _ => hst.out⟩, H4⟩
        case measure => rw [hm0.out]; rw [hlen]; rw [lmeas_sta (l := l ++ [v]) H4, ← hlen]; split <;> omega
      obtain ⟨x, hx⟩ : ∃ x, Hid ((if v = 16 then l.getD (l.length - 1) 0 else 0) = x) := ⟨_, rfl⟩
      have hp0 : ∀ e', e2 ≠ 0 → e' = e2 → ∀ v m, GotR G v m e' := fun e' h h' => by rw [h']; exact (hpl.out.get.1 h).2 h
      go_upto_if 36 with (fail)
      go_cut [11] (fun v11 wx => ∃ (k n3 : Nat) (E : Int), v11 = .int .i64 k ∧ 1 ≤ k ∧ k ≤ 70000 ∧ n3 ≤ 8 * s.size ∧ Hid (LSt (textBits s) G T N (agL N l k x) n3 (agE N l k E)) ∧ Own w0 wx (Sta g rg s n3 out most E :: slc 3 1 (.slice a M c) M (nums l) :: blk tb (.cells #[.slice la m lc, .slice ua U uc] 109) :: slc 3 1 (.slice ua U uc) U (nums C) :: ps))
      case first =>
        replace hp0 := Lib.hid hp0
        by_cases hv6 : v = 16
        · subst hv6
          have hMb : Hid (((M : Int) == 0) = decide (M = 0)) := Lib.hid (by by_cases h : M = 0 <;> simp [h])
          obtain ⟨mb, hmb⟩ : ∃ b, Hid (decide (M = 0) = b) := ⟨_, rfl⟩
          rw [hmb.out] at hMb
          have hMb1 := hMb.out
          have K1 := Lib.hid (rfault_any (g := g) (rg := rg) mb 2 H3)
          obtain ⟨eF, heF⟩ : ∃ x, Hid (fltF mb 2 e2 = x) := ⟨_, rfl⟩
          rw [heF.out] at K1
          have hp1 : Hid (eF = 0 → e2 = 0 ∧ l.length ≠ 0) := Lib.hid fun h => by
            rw [← heF.out] at h
            unfold fltF at h
            split at h
            · cases h
            · next h' => exact ⟨h, fun h0 => h' ⟨by rw [← hmb.out, decide_eq_true_eq, ← hM.out]; exact h0, h⟩⟩
          have hp2 : Hid (eF ≠ 0 → ∀ v m, GotR G v m eF) := Lib.hid fun h => by
            rw [← heF.out] at h ⊢
            by_cases h2 : e2 = 0
            · cases hmbv : mb with
              | true =>
                rw [h2, flt_yes]
                exact (hpl.out.get.2 h2).2.1 rfl (by rw [hM.out]; exact of_decide_eq_true (hmb.out.trans hmbv))
              | false => rw [hmbv, flt_no] at h; exact absurd h2 h
            · rw [flt_ne h2]; exact hp0.out _ h2 rfl
          go_wp2_with fail
          refine K1.out.mono ?_
          rintro e5 w5 ⟨_, rfl, HX⟩
          clear K1 H3 heF hmb hMb hMb1
          have HT := Lib.hid (rtk_any 2 (by omega) HX hs hn2)
          go_wp2_with fail
          refine HT.out.mono ?_
          rintro e4 w4 ⟨_, rfl, V, n3, E, rfl, hV0, hV1, hn3, hE, hg, H4⟩
          have hst := Lib.hid (lst_more (l := l) (N := N) (T := T) (x := x) (b := 3) (j := 2) (n1 := n2) (fun h => by rw [(hpl.out.get.2 (hp1.out h).1).2.2.1 rfl (hp1.out h).2, ← hx.out, if_pos trivial]) hp2.out hg (fun h => (hE h).1))
          obtain ⟨V, rfl⟩ : ∃ k : Nat, V = k := ⟨V.toNat, by omega⟩
          rw [Int.toNat_natCast] at hst
          clear HT HX
          go_wp2
          go_meet
          exact ⟨3 + V, n3, E, by simp, by omega, by omega, hn3, hst, H4⟩
        · have hv6b : (v == 16) = false := by simp [hv6]
          rw [if_neg hv6] at hx
          by_cases hv7 : v = 17
          · subst hv7
            have HX := H3
            have HT := Lib.hid (rtk_any 3 (by omega) HX hs hn2)
            go_wp2_with fail
            refine HT.out.mono ?_
            rintro e4 w4 ⟨_, rfl, V, n3, E, rfl, hV0, hV1, hn3, hE, hg, H4⟩
            have hst := Lib.hid (lst_more (l := l) (N := N) (T := T) (x := x) (b := 3) (j := 3) (n1 := n2) (fun h => by rw [(hpl.out.get.2 h).2.2.2.1 rfl, ← hx.out]) (fun h => hp0.out _ h rfl) hg (fun h => (hE h).1))
            obtain ⟨V, rfl⟩ : ∃ k : Nat, V = k := ⟨V.toNat, by omega⟩
            rw [Int.toNat_natCast] at hst
            clear HT HX
            go_wp2
            go_meet
            exact ⟨3 + V, n3, E, by simp, by omega, by omega, hn3, hst, H4⟩
          · have hv7b : (v == 17) = false := by simp [hv7]
            have HX := H3
            have HT := Lib.hid (rtk_any 7 (by omega) HX hs hn2)
            go_wp2_with fail
            refine HT.out.mono ?_
            rintro e4 w4 ⟨_, rfl, V, n3, E, rfl, hV0, hV1, hn3, hE, hg, H4⟩
            have hst := Lib.hid (lst_more (l := l) (N := N) (T := T) (x := x) (b := 11) (j := 7) (n1 := n2) (fun h => by rw [(hpl.out.get.2 h).2.2.2.2 (by omega), ← hx.out]) (fun h => hp0.out _ h rfl) hg (fun h => (hE h).1))
            obtain ⟨V, rfl⟩ : ∃ k : Nat, V = k := ⟨V.toNat, by omega⟩
            rw [Int.toNat_natCast] at hst
            clear HT HX
            go_wp2
            go_meet
            exact ⟨11 + V, n3, E, by simp, by omega, by omega, hn3, hst, H4⟩
      case rest =>
      clear hpl hp0 H3
      obtain ⟨k, n3, E, rfl, hk1, hk2, hn3, hst, H⟩ := hcut
      have hlt3 : Hid (decide ((N : Int) - M < k) = decide ((N : Int) - l.length < k)) := Lib.hid (by rw [hM.out])
      obtain ⟨bd, hbd⟩ : ∃ b, Hid (decide ((N : Int) - M < k) = b) := ⟨_, rfl⟩
      have hagE : Hid (agE N l k E = fltF bd 2 E) := Lib.hid (by rw [agE_flt, ← hlt3.out, hbd.out])
      obtain ⟨E2, hE2⟩ : ∃ x, Hid (fltF bd 2 E = x) := ⟨_, rfl⟩
      rw [hagE.out, hE2.out] at hst
      have hag : Hid (E2 = 0 → agL N l k x = l ++ List.replicate k x ∧ M + k ≤ N) := Lib.hid fun h => by
        have h1 : ¬ N < l.length + k := fun h2 => by
          rw [← hE2.out, ← hagE.out] at h
          unfold agE at h
          rw [if_pos h2] at h
          split at h
          · cases h
          · next h3 => exact h3 h
        refine ⟨by unfold agL; rw [if_neg h1], by rw [← hM.out]; omega⟩
      have K1 := Lib.hid (rfault_any (g := g) (rg := rg) bd 2 H)
      rw [hE2.out] at K1
      have hbd1 := hbd.out
      have hw1 : IntKind.i64.wrap ((N : Int) - (M : Int)) = (N : Int) - M := IntWalk.i64_in _ ⟨by omega, by omega⟩
      clear hlt3 hagE hE2
      go_wp2_with fail
      refine K1.out.mono ?_
      rintro e4 w4 ⟨_, rfl, H4⟩
      clear K1 H hbd hbd1
      by_cases hv : v = 16
      case' pos =>
        have hvb : (v == 16) = true := by simp [hv]
        rw [if_pos hv] at hx
        clear hv
        go_upto_if 67 with (fail)
        go_cut [10] (fun v10 wx => wx = w4 ∧ v10 = .int .i64 x)
        case first =>
          by_cases hM0 : M = 0
          · have hx0 : Hid (x = 0) := Lib.hid (by rw [← hx.out, hM.out, hM0]; have := hM.out; rw [hM0] at this; rw [List.eq_nil_of_length_eq_zero this]; rfl)
            have hM1 : ¬ (0 : Int) < (M : Int) := by omega
            clear hM0 hx
            go_wp2
            go_meet
            exact ⟨rfl, by rw [hx0.out]⟩
          · have hM1 : (0 : Int) < (M : Int) := by omega
            obtain ⟨K, rfl⟩ : ∃ K, M = K + 1 := ⟨M - 1, by omega⟩
            obtain ⟨bK, oK, e6, cK⟩ := rd_at (H4.front 1 rfl).rd (Own.start w4) (i := K) (by omega)
            cases e6
            have hxK : l.getD K 0 = x := by rw [← hx.out, hM.out]; rfl
            rw [hxK] at cK
            clear hM0 hx hxK
            go_wp2
            go_meet
            exact ⟨rfl, rfl⟩
        case' rest => obtain ⟨rfl, rfl⟩ := hcut
      case' neg =>
        have hvb : (v == 16) = false := by simp [hv]
        rw [if_neg hv] at hx
        clear hv
        go_upto_if 67 with (fail)
        go_cut [10] (fun v10 wx => wx = w4 ∧ v10 = .int .i64 x)
        case first =>
          go_wp2
          go_meet
          exact ⟨rfl, by rw [← hx.out]⟩
        case' rest => obtain ⟨rfl, rfl⟩ := hcut
      all_goals
        clear hx hvb
        by_cases hE0 : E2 = 0
        · subst hE0
          obtain ⟨hag1, hMk⟩ := hag.out rfl
          rw [hag1] at hst
          clear hag hag1
          go_wp2_with fail
          go_loopw [7, 12] (fun v7 v12 wx => ∃ j : Nat, v12 = .int .i64 j ∧ j ≤ k ∧ Own w0 wx (Sta g rg s n3 out most 0 :: slc 3 1 v7 (M + j) (nums (l ++ List.replicate j x)) :: blk tb (.cells #[.slice la m lc, .slice ua U uc] 109) :: slc 3 1 (.slice ua U uc) U (nums C) :: ps)) (fun _ v12 _ => k - (intOf v12).toNat)
          case atStart => exact ⟨0, by go_num, by omega, by simpa using H4⟩
          case round =>
            clear H4
            obtain ⟨j, rfl, hj, H⟩ := hrel
            obtain ⟨a2, c2, rfl, hc3, hc4⟩ := (H.front 1 rfl).rd.shape
            obtain ⟨a3, c3, b3, _, _, HX⟩ := H.sta
            have cX := HX.cells
            by_cases hjk : j < k
            · have hjI : (j : Int) < (k : Int) := by omega
              replace H := H.swap
              clear HX
              go_wp2_with (at_builtin; refine wpList_append_one rfl _ _ rfl Try.underlying22 intInfo rfl (by decide) rfl H rfl rfl rfl (by simp [Value.oneCell']) (by omega) (by omega) ?_; clear H cX; intro v' w' H; obtain ⟨a', c', rfl, h1', h2'⟩ := H.rd.shape)
              have H5 : Own w0 w' (Sta g rg s n3 out most 0 :: slc 3 1 (.slice a' (M + (j + 1)) c') (M + (j + 1)) (nums (l ++ List.replicate (j + 1) x)) :: blk tb (.cells #[.slice la m lc, .slice ua U uc] 109) :: slc 3 1 (.slice ua U uc) U (nums C) :: ps) := by
                rw [List.replicate_succ', ← List.append_assoc, ← nums_append, ← Nat.add_assoc]; exact H.swap
              rw [Nat.add_assoc]
              clear H
              go_wp2
              go_roundw
              case rel => exact ⟨j + 1, by go_num, by omega, H5⟩
              case measure => simp [intOf]; omega
            · obtain rfl : j = k := by omega
              have hjI : ¬ (j : Int) < (j : Int) := by omega
              have hlen : M + j = (l ++ List.replicate j x).length := by rw [List.length_append, List.length_replicate, hM.out]
              clear HX
              go_wp2
              go_roundw
              case rel => exact ⟨l ++ List.replicate j x, n3, 0, by omega, hn3, Lib.hid ⟨fun h => absurd rfl h, fun _ => hst.out⟩, by rw [← hlen]; exact H⟩
              case measure => rw [hm0.out]; rw [hlen] at H ⊢; rw [lmeas_sta (l := l ++ List.replicate j x) H, ← hlen]; split <;> omega
        · have hE1 : (E2 == 0) = false := by simp [hE0]
          replace hst := Lib.hid (lst_any (l' := l) (n' := n3) hst.out hE0)
          clear hag
          go_wp2_with fail
          go_loopw [7, 12] (fun v7 v12 wx => v7 = .slice a M c ∧ v12 = .int .i64 0 ∧ Own w0 wx (Sta g rg s n3 out most E2 :: slc 3 1 (.slice a M c) M (nums l) :: blk tb (.cells #[.slice la m lc, .slice ua U uc] 109) :: slc 3 1 (.slice ua U uc) U (nums C) :: ps)) (fun _ _ _ => 0)
          case atStart => exact ⟨rfl, rfl, H4⟩
          case round =>
            clear H4
            obtain ⟨rfl, rfl, H4⟩ := hrel
            obtain ⟨a3, c3, b3, _, _, HX⟩ := H4.sta
            have cX := HX.cells
            have hkI : (0 : Int) < (k : Int) := by omega
            clear HX
            go_wp2
            go_roundw
            case rel => exact ⟨l, n3, E2, by rw [hM.out]; omega, hn3, Lib.hid ⟨fun h => absurd rfl h, fun _ => hst.out⟩, by rw [hM.out]; exact H4⟩
            case measure =>
              rw [hm0.out]
              have h8 := lmeas_sta (N := N) (l := l) (a := a) (c := c) H4
              rw [hM.out, if_neg hE0] at h8
              rw [h8]; omega
end Go.Proofs.Ytpbodonmiepilaa
/- huff: the walks of the document's plain functions. -/
namespace Go.Proofs.Ytpbodonmiepilaa
open Go.RowKit



theorem rused_any {w : World} {v : Value} {n : Nat} {F : List Int} (hr : Rd w 1 v n (nums F)) (hn : n ≤ 1000000) :
    Calls Try.prog 93 #[v] w (Ret fun r w' => r = .int .i64 (usedF F).length ∧ Own w w' []) := by
  have hl := Lib.hid (rd_len hr)
  obtain ⟨a, c, rfl, hc1, hc2⟩ := hr.shape
  have HR := Lib.hid hr
  have H := Own.start w
  obtain ⟨Z, hZ⟩ : ∃ Z, Hid ((usedF F).length = Z) := ⟨_, rfl⟩
  rw [hZ.out]
  clear hr
  go_enter Try.func93, Try.ntmps93
  go_wp2_with fail
  go_loopw [3, 4] (fun s3 s4 wx => ∃ i : Nat, s4 = .int .i64 i ∧ i ≤ n ∧ s3 = .int .i64 (usedN F i).length ∧ Own w wx []) (fun _ s4 _ => n - (intOf s4).toNat)
  case atStart => exact ⟨0, by go_num, by omega, by simp [usedN], H⟩
  case round =>
    clear H
    obtain ⟨i, rfl, hi, rfl, H⟩ := hrel
    have hu := usedN_length F i
    by_cases hlt : i < n
    · obtain ⟨b, o, rfl, c1⟩ := rd_at HR.out H hlt
      have hus : usedN F (i + 1) = if 0 < F.getD i 0 then usedN F i ++ [(i : Int)] else usedN F i := rfl
      obtain ⟨x, hx⟩ : ∃ x, Hid (F.getD i 0 = x) := ⟨_, rfl⟩
      obtain ⟨q, hq⟩ : ∃ q, Hid ((usedN F i).length = q) := ⟨_, rfl⟩
      rw [hx.out] at c1 hus
      have hI : (i : Int) < (n : Int) := by omega
      by_cases hpos : 0 < x
      · have HU : Hid ((usedN F (i + 1)).length = q + 1) := Lib.hid (by rw [hus, if_pos hpos, List.length_append, hq.out]; rfl)
        rw [hq.out] at hu ⊢
        clear hus
        go_wp2_with fail
        go_roundw
        case rel => exact ⟨i + 1, by go_num, by omega, by rw [HU.out]; go_num, H⟩
        case measure => simp [intOf]; omega
      · have HU : Hid ((usedN F (i + 1)).length = q) := Lib.hid (by rw [hus, if_neg hpos, hq.out])
        rw [hq.out] at hu ⊢
        clear hus
        go_wp2_with fail
        go_roundw
        case rel => exact ⟨i + 1, by go_num, by omega, by rw [HU.out], H⟩
        case measure => simp [intOf]; omega
    · obtain rfl : i = n := by omega
      have e : Hid ((usedN F i).length = (usedF F).length) := Lib.hid (by unfold usedF; rw [hl.out])
      rw [e.out, hZ.out] at hu ⊢
      go_wp2
      go_ret
      exact ⟨_, rfl, rfl, H⟩

end Go.Proofs.Ytpbodonmiepilaa
/- huff: the walks of New and of the document's MayTable. -/
namespace Go.Proofs.Ytpbodonmiepilaa
open Go.RowKit

set_option maxHeartbeats 1600000 in
theorem rmaytable_any {w : World} {v : Value} {n : Nat} {F : List Int} (hr : Rd w 1 v n (nums F)) (hn : n ≤ 1000000) :
    Calls Try.prog 70 #[v] w (Ret fun r w' => r = .int .i64 (terrF F) ∧ Own w w' []) := by
  have hl := Lib.hid (rd_len hr)
  obtain ⟨a, c, rfl, hc1, hc2⟩ := hr.shape
  have HR := Lib.hid hr
  have H := Own.start w
  obtain ⟨er, her⟩ : ∃ er, Hid (terrF F = er) := ⟨_, rfl⟩
  rw [her.out]
  obtain ⟨Z, hZ⟩ : ∃ Z, Hid (mayF F = Z) := ⟨_, rfl⟩
  clear hr
  go_enter Try.func70, Try.ntmps70
  go_wp2_with fail
  refine (rmay_any (HR.out.old H) hn).mono ?_
  rintro e w1 ⟨_, rfl, rfl, H1⟩
  have H := H.join H1
  clear H1
  rw [hZ.out]
  cases Z with
  | false =>
    have e1 : Hid (er = 1) := Lib.hid (by rw [← her.out]; unfold terrF; rw [hZ.out]; rfl)
    go_wp2_with fail
    go_ret
    exact ⟨_, rfl, by rw [e1.out]; rfl, H⟩
  | true =>
    have hm := mayF_len hZ.out
    go_wp2_with fail
    refine (rweight_any (HR.out.old H) hn hm.2).mono ?_
    rintro e w2 ⟨_, rfl, rfl, H1⟩
    have H := H.join H1
    clear H1
    go_wp2_with fail
    refine (rused_any (HR.out.old H) hn).mono ?_
    rintro e w3 ⟨_, rfl, rfl, H1⟩
    have H := H.join H1
    clear H1
    have her2 : er = if sumF wtF F = 32768 ∨ (usedF F).length = 0 ∨ (usedF F).length = 1 ∧ sumF wtF F = 16384 then 0 else 2 := by rw [← her.out]; unfold terrF; rw [hZ.out, if_pos rfl]
    generalize sumF wtF F = wt at *
    generalize (usedF F).length = u at *
    clear hm
    have fin : (er = 0 ∧ (wt = 32768 ∨ u = 0 ∨ u = 1 ∧ wt = 16384)) ∨ (er = 2 ∧ wt ≠ 32768 ∧ u ≠ 0 ∧ ¬ (u = 1 ∧ wt = 16384)) := by
      by_cases h : wt = 32768 ∨ u = 0 ∨ u = 1 ∧ wt = 16384
      · exact .inl ⟨by rw [her2, if_pos h], h⟩
      · exact .inr ⟨by rw [her2, if_neg h], by omega, by omega, by omega⟩
    clear her2
    rcases fin with ⟨h0, h⟩ | ⟨h0, h1, h2, h3⟩
    · have e0 := Lib.hid h0
      clear h0
      by_cases g1 : wt = 32768
      · subst g1
        clear h
        go_wp2_with fail
        go_ret
        exact ⟨_, rfl, by rw [e0.out]; rfl, H⟩
      · have g1b : (wt == 32768) = false := by simpa using g1
        by_cases g2 : u = 0
        · subst g2
          clear h
          go_wp2_with fail
          go_ret
          exact ⟨_, rfl, by rw [e0.out]; rfl, H⟩
        · have g2b : ((u : Int) == 0) = false := by simp; omega
          obtain ⟨rfl, rfl⟩ : u = 1 ∧ wt = 16384 := by omega
          clear h
          go_wp2_with fail
          go_ret
          exact ⟨_, rfl, by rw [e0.out]; rfl, H⟩
    · have e0 := Lib.hid h0
      clear h0
      have g1b : (wt == 32768) = false := by simpa using h1
      have g2b : ((u : Int) == 0) = false := by simp; omega
      by_cases g3 : u = 1
      · subst g3
        have g4 : (wt == 16384) = false := by simp; omega
        clear h1 h2 h3
        go_wp2_with fail
        go_ret
        exact ⟨_, rfl, by rw [e0.out]; rfl, H⟩
      · have g3b : ((u : Int) == 1) = false := by simp; omega
        clear h1 h2 h3
        go_wp2_with fail
        go_ret
        exact ⟨_, rfl, by rw [e0.out]; rfl, H⟩
end Go.Proofs.Ytpbodonmiepilaa
/- inflate, the document's: the walk of told. -/
namespace Go.Proofs.Ytpbodonmiepilaa
open Go.RowKit

def ordL : List Int := [16, 17, 18, 0, 8, 7, 9, 6, 10, 5, 11, 4, 12, 3, 13, 2, 14, 1, 15]
theorem ordL_get : ∀ i : Fin 19, ordL.getD i.1 0 = ((ordN i.1 : Nat) : Int) := by decide
/-- A taking, its values told. -/
def rkV (s : ByteArray) (n k : Nat) (e : Int) : Int := if e = 0 then tkV s n k else 0
def rkN (s : ByteArray) (n k : Nat) (e : Int) : Nat := if e = 0 then tkN s n k else n
def rkE (s : ByteArray) (n k : Nat) (e : Int) : Int := if e = 0 then tkE s n k 0 else e
theorem rk_facts {s : ByteArray} {n k : Nat} {e : Int} (hk : k ≤ 16) (hn : n ≤ 8 * s.size) : 0 ≤ rkV s n k e ∧ rkV s n k e < 65536 ∧ rkN s n k e ≤ 8 * s.size ∧ (e ≠ 0 → rkE s n k e = e ∧ rkV s n k e = 0) ∧ (e = 0 → GotR (takeG (textBits s) k n) (rkV s n k e) (rkN s n k e) (rkE s n k e)) := by
  unfold rkV rkN rkE
  by_cases he : e = 0
  · rw [if_pos he, if_pos he, if_pos he]
    obtain ⟨hg, hn', -⟩ := tk_got (s := s) (n := n) (k := k) (by omega) hn
    obtain ⟨hv0, hv1⟩ := tkV_bd (s := s) (n := n) hk
    replace hg : GotR (takeG (textBits s) k n) (tkV s n k) (tkN s n k) (tkE s n k 0) := by simpa [tkE] using hg
    exact ⟨hv0, hv1, hn', fun h => absurd he h, fun _ => hg⟩
  · rw [if_neg he, if_neg he, if_neg he]
    exact ⟨by omega, by omega, hn, fun _ => ⟨rfl, rfl⟩, fun h => absurd h he⟩
set_option maxHeartbeats 800000 in
theorem rtake_kn {w0 w : World} {ps : List Piece} {g rg n : Nat} {s : ByteArray} {out : List Int} {most e : Int} (k : Nat) (hk : k ≤ 16) (H : Own w0 w (Sta g rg s n out most e :: ps)) (hs : s.size ≤ 1000000) (hn : n ≤ 8 * s.size) :
    Calls Try.prog 40 #[.pointer (some ⟨g, 0, none⟩), .int .i64 k] w (Ret fun r w' => r = .int .i64 (rkV s n k e) ∧ Own w0 w' (Sta g rg s (rkN s n k e) out most (rkE s n k e) :: ps)) := by
  unfold rkV rkN rkE
  by_cases he : e = 0
  · subst he
    rw [if_pos rfl, if_pos rfl, if_pos rfl]
    exact rtake_tk k hk H hs hn
  · rw [if_neg he, if_neg he, if_neg he]
    obtain ⟨a, c, b, h1, h2, H⟩ := H.sta
    have c0 := H.cells
    have hb : (e == 0) = false := by simp [he]
    have hb2 : (e != 0) = true := by simp [he]
    go_enter Try.func40, Try.ntmps40
    go_wp2
    go_ret
    exact ⟨_, rfl, rfl, H.unsta rfl⟩
theorem dst_end2 {bs : List Bool} {G : Got (List Int × List Int)} {a b : Int} {c4 k n : Nat} {xs X : List Int} (h : DSt bs G a b c4 k xs X n 0) (hc : c4 ≤ k) : X = unordF xs ∧ G = codesC bs a b xs n := by
  obtain ⟨h1, h2, h3⟩ := h.1 rfl
  rw [show c4 - k = 0 by omega, lensG, Got.bind_ok] at h3
  exact ⟨h2, h3⟩
/-- What told leaves. -/
def RTolP (w0 : World) (ps : List Piece) (g rg : Nat) (s : ByteArray) (out : List Int) (most : Int) (G : Got (List Int × List Int)) (r : Value) (w' : World) : Prop :=
  ∃ (v u : Value) (LD : List Int × List Int) (n' : Nat) (e' : Int), r = .tuple #[v, u] ∧ n' ≤ 8 * s.size ∧ GotR G LD n' e' ∧ (e' ≠ 0 → Own w0 w' (Sta g rg s n' out most e' :: ps)) ∧
    (e' = 0 → terrF LD.1 = 0 ∧ terrF LD.2 = 0 ∧ ∃ q : Piece, Own w0 w' (Sta g rg s n' out most e' :: q :: ps) ∧ ∀ w2 qs, Own w0 w2 (q :: qs) → Rd w2 1 v LD.1.length (nums LD.1) ∧ Rd w2 1 u LD.2.length (nums LD.2))
set_option maxRecDepth 100000 in
set_option maxHeartbeats 6400000 in
theorem rtold_any {w0 w : World} {ps : List Piece} {g rg n : Nat} {s : ByteArray} {out : List Int} {most : Int} (hs : s.size ≤ 1000000) (hn : n ≤ 8 * s.size) (H : Own w0 w (Sta g rg s n out most 0 :: ps)) :
    Calls Try.prog 45 #[.pointer (some ⟨g, 0, none⟩)] w (Ret (RTolP w0 ps g rg s out most (codesG (textBits s) n))) := by
  obtain ⟨B, hB⟩ : ∃ B, Hid (textBits s = B) := ⟨_, rfl⟩
  obtain ⟨G, hG⟩ : ∃ G, Hid (codesG B n = G) := ⟨_, rfl⟩
  rw [hB.out, hG.out]
  go_enter Try.func45, Try.ntmps45
  have HT := Lib.hid (rtk_any 5 (by omega) H hs hn)
  go_wp2_with fail
  refine HT.out.mono ?_
  rintro e w1 ⟨_, rfl, v1, n1, e1, rfl, hv1, hv1', hn1, -, hg1, H1⟩
  replace hg1 := Lib.hid (hg1 trivial)
  clear HT H
  have HT := Lib.hid (rtk_any 5 (by omega) H1 hs hn1)
  go_wp2_with fail
  refine HT.out.mono ?_
  rintro e w2 ⟨_, rfl, v2, n2, e2, rfl, hv2, hv2', hn2, he2, hg2, H2⟩
  replace hg2 := Lib.hid hg2
  replace he2 := Lib.hid fun h => (he2 h).1
  clear HT H1
  have HT := Lib.hid (rtk_any 4 (by omega) H2 hs hn2)
  go_wp2_with fail
  refine HT.out.mono ?_
  rintro e w3 ⟨_, rfl, v3, n3, e3, rfl, hv3, hv3', hn3, he3, hg3, H⟩
  have hst := Lib.hid (dst_start hg1.out he2.out hg2.out (fun h => (he3 h).1) hg3)
  clear HT H2 hg1 hg2 he2 hg3 he3
  rw [hB.out, hG.out] at hst
  obtain ⟨A, rfl⟩ : ∃ A : Nat, v1 = A := ⟨v1.toNat, by omega⟩
  obtain ⟨D, rfl⟩ : ∃ D : Nat, v2 = D := ⟨v2.toNat, by omega⟩
  obtain ⟨C, rfl⟩ : ∃ C : Nat, v3 = C := ⟨v3.toNat, by omega⟩
  have hw1 : IntKind.i64.wrap (257 + (A : Int)) = 257 + (A : Int) := IntWalk.i64_in _ ⟨by omega, by omega⟩
  have hw2 : IntKind.i64.wrap (1 + (D : Int)) = 1 + (D : Int) := IntWalk.i64_in _ ⟨by omega, by omega⟩
  have hw3 : IntKind.i64.wrap (4 + (C : Int)) = 4 + (C : Int) := IntWalk.i64_in _ ⟨by omega, by omega⟩
  replace hst : Hid ((e3 = 0 → A < 32 ∧ D < 32 ∧ C < 16) ∧ ((29 < A ∨ 29 < D) → ∀ (v : List Int × List Int) (m : Nat), GotR G v m (if e3 = 0 then 2 else e3)) ∧ (¬ (29 < A ∨ 29 < D) → DSt B G A D (4 + C) 0 [] (zerosF 19) n3 e3)) := Lib.hid (by
    have h := hst.out
    simp only [Int.toNat_natCast] at h
    refine ⟨fun h0 => by have := h.1 h0; omega, fun hx => h.2.1 (by omega), fun hx => h.2.2 (by omega)⟩)
  go_upto_region 4 with (fail)
  go_cut [] (fun wx => ∃ e4 : Int, Hid (e4 = 0 → A ≤ 29 ∧ D ≤ 29 ∧ C < 16) ∧ Hid (DSt B G A D (4 + C) 0 [] (zerosF 19) n3 e4) ∧ Own w0 wx (Sta g rg s n3 out most e4 :: ps))
  case first =>
    have h2 : Hid ((29 < A ∨ 29 < D) → fltF true 2 e3 = (if e3 = 0 then 2 else e3) ∧ fltF true 2 e3 ≠ 0) := Lib.hid fun _ => by
      unfold fltF
      by_cases h0 : e3 = 0 <;> simp [h0]
    by_cases hx1 : 29 < A
    · have h1' : (286 : Int) < 257 + (A : Int) := by omega
      have h3 := Lib.hid (h2.out (.inl hx1))
      have h4 := Lib.hid (hst.out.2.1 (.inl hx1))
      have HH := Lib.hid (rfault_any (g := g) (rg := rg) true 2 H)
      clear hx1 h2
      go_wp2_with fail
      refine HH.out.mono ?_
      rintro e w4 ⟨_, rfl, H4⟩
      clear HH
      go_wp2
      go_meet
      exact ⟨_, Lib.hid fun h => absurd h h3.out.2, Lib.hid ⟨fun h => absurd h h3.out.2, fun _ => by rw [h3.out.1]; exact h4.out⟩, H4⟩
    · have h1' : ¬ (286 : Int) < 257 + (A : Int) := by omega
      by_cases hx2 : 29 < D
      · have h2' : (30 : Int) < 1 + (D : Int) := by omega
        have h3 := Lib.hid (h2.out (.inr hx2))
        have h4 := Lib.hid (hst.out.2.1 (.inr hx2))
        have HH := Lib.hid (rfault_any (g := g) (rg := rg) true 2 H)
        clear hx1 hx2 h2
        go_wp2_with fail
        refine HH.out.mono ?_
        rintro e w4 ⟨_, rfl, H4⟩
        clear HH
        go_wp2
        go_meet
        exact ⟨_, Lib.hid fun h => absurd h h3.out.2, Lib.hid ⟨fun h => absurd h h3.out.2, fun _ => by rw [h3.out.1]; exact h4.out⟩, H4⟩
      · have h2' : ¬ (30 : Int) < 1 + (D : Int) := by omega
        have h3 := Lib.hid (hst.out.2.2 (by omega))
        have h4 : Hid (e3 = 0 → A ≤ 29 ∧ D ≤ 29 ∧ C < 16) := Lib.hid fun h0 => by have := hst.out.1 h0; omega
        have HH := Lib.hid (rfault_any (g := g) (rg := rg) false 2 H)
        rw [flt_no] at HH
        clear hx1 hx2 h2
        go_wp2_with fail
        refine HH.out.mono ?_
        rintro e w4 ⟨_, rfl, H4⟩
        clear HH
        go_wp2
        go_meet
        exact ⟨e3, h4, h3, H4⟩
  case rest =>
  clear hst H
  obtain ⟨e4, hb4, hst, H⟩ := hcut
  clear hv1 hv2 hv3
  go_upto_region 5 with (fail)
  have HA : Own w0 (wc.alloc (.cells #[.int .i64 16, .int .i64 17, .int .i64 18, .int .i64 0, .int .i64 8, .int .i64 7, .int .i64 9, .int .i64 6, .int .i64 10, .int .i64 5, .int .i64 11, .int .i64 4, .int .i64 12, .int .i64 3, .int .i64 13, .int .i64 2, .int .i64 14, .int .i64 1, .int .i64 15] 3)) (slc 3 1 (.slice (some ⟨wc.heap.size, 0, none⟩) 19 19) 19 (nums ordL) :: Sta g rg s n3 out most e4 :: ps) := H.made (nums ordL) 3 1 19 rfl (by simp [maxLen])
  go_upto_region 6 with (fail)
  generalize wc.alloc _ = w5 at *
  generalize wc.heap.size = bA at *
  clear H
  replace HA := HA.nil 3 1
  go_wp2_with fail
  go_loopw [8, 9] (fun v8 v9 wx => ∃ k : Nat, v9 = .int .i64 k ∧ k ≤ 19 ∧ Own w0 wx (slc 3 1 v8 k (nums (zerosF k)) :: slc 3 1 (.slice (some ⟨bA, 0, none⟩) 19 19) 19 (nums ordL) :: Sta g rg s n3 out most e4 :: ps)) (fun _ v9 _ => 19 - (intOf v9).toNat)
  case atStart => exact ⟨0, by go_num, by omega, HA⟩
  case round =>
    clear HA
    obtain ⟨k, rfl, hk, H⟩ := hrel
    obtain ⟨a8, c8, rfl, hc81, hc82⟩ := H.rd.shape
    by_cases hk19 : k < 19
    · have hkI : (k : Int) < 19 := by omega
      go_wp2_with (at_builtin; refine wpList_append_one rfl _ _ rfl Try.underlying22 intInfo rfl (by decide) rfl H rfl rfl rfl (by simp [Value.oneCell']) (by omega) (by omega) ?_; clear H; intro v' w' H; obtain ⟨a', c', rfl, h1', h2'⟩ := H.rd.shape)
      have H5 : Own w0 w' (slc 3 1 (.slice a' (k + 1) c') (k + 1) (nums (zerosF (k + 1))) :: slc 3 1 (.slice (some ⟨bA, 0, none⟩) 19 19) 19 (nums ordL) :: Sta g rg s n3 out most e4 :: ps) := by
        unfold zerosF
        rw [List.replicate_succ', ← nums_append]; exact H
      clear H
      go_wp2
      go_roundw
      case rel => exact ⟨k + 1, by go_num, by omega, H5⟩
      case measure => simp [intOf]; omega
    · obtain rfl : k = 19 := by omega
      have hkI : ¬ ((19 : Nat) : Int) < 19 := by omega
      obtain ⟨b8, c', e8, -, -, -, -, -, -⟩ := H.at (by rw [nums_length]; decide)
      cases e8
      clear hk hk19
      go_wp2_with fail
      go_loopw [10] (fun v10 wx => ∃ (k : Nat) (xs X : List Int) (n4 : Nat) (e : Int), v10 = .int .i64 k ∧ k ≤ 19 ∧ X.length = 19 ∧ n4 ≤ 8 * s.size ∧ Hid (e = 0 → A ≤ 29 ∧ D ≤ 29 ∧ C < 16) ∧ Hid (DSt B G A D (4 + C) k xs X n4 e) ∧ Own w0 wx (slc 3 1 (.slice (some ⟨b8, 0, none⟩) 19 c8) 19 (nums X) :: slc 3 1 (.slice (some ⟨bA, 0, none⟩) 19 19) 19 (nums ordL) :: Sta g rg s n4 out most e :: ps)) (fun v10 _ => 19 - (intOf v10).toNat)
      case atStart => exact ⟨0, [], zerosF 19, n3, e4, by go_num, by omega, rfl, hn3, hb4, hst, H⟩
      case round =>
        clear H hst hb4
        obtain ⟨k, xs, X, n4, e, rfl, hk, hX, hn4, hb4, hst, H⟩ := hrel
        replace hX := Lib.hid hX
        by_cases hkc : k < 4 + C ∧ k < 19
        · obtain ⟨hkc, hk19⟩ := hkc
          have hkI : (k : Int) < 19 := by omega
          have hkcI : (k : Int) < 4 + (C : Int) := by omega
          have ho19 := ordN_lt ⟨k, hk19⟩
          simp only at ho19
          have hog : ordL.getD k 0 = ((ordN k : Nat) : Int) := ordL_get ⟨k, hk19⟩
          obtain ⟨oj, hoj⟩ : ∃ oj, Hid (ordN k = oj) := ⟨_, rfl⟩
          rw [hoj.out] at ho19 hog
          have hojI : (oj : Int) < 19 := by omega
          have HR : Hid (∀ (w' : World) (q : Piece) (qs : List Piece), Own w0 w' (q :: slc 3 1 (.slice (some ⟨bA, 0, none⟩) 19 19) 19 (nums ordL) :: qs) → w'.cell? ⟨bA, k, none⟩ = some (.int .i64 oj)) := Lib.hid fun w' q qs h => by
            obtain ⟨_, _, e7, h7⟩ := rd_at (h.front 1 rfl).rd (Own.start w') hk19
            cases e7
            rw [hog, Nat.zero_add] at h7
            exact h7
          obtain ⟨hf1, hf2, hf3, hf4, hf5⟩ := rk_facts (s := s) (n := n4) (k := 3) (e := e) (by omega) hn4
          have HT := Lib.hid (fun wz (pz : List Piece) (h : Own w0 wz (Sta g rg s n4 out most e :: pz)) => rtake_kn 3 (by omega) h hs hn4)
          obtain ⟨V, hV⟩ : ∃ V, Hid (rkV s n4 3 e = V) := ⟨_, rfl⟩
          obtain ⟨M, hM⟩ : ∃ M, Hid (rkN s n4 3 e = M) := ⟨_, rfl⟩
          obtain ⟨E, hE⟩ : ∃ E, Hid (rkE s n4 3 e = E) := ⟨_, rfl⟩
          rw [hV.out, hM.out, hE.out] at HT hf5
          rw [hV.out] at hf1 hf2
          rw [hM.out] at hf3
          rw [hE.out, hV.out] at hf4
          have hst2 : Hid (DSt B G A D (4 + C) (k + 1) (xs ++ [V]) (X.set oj V) M E) := Lib.hid (by
            by_cases h0 : e = 0
            · subst h0
              have hC := (hb4.out rfl).2.2
              have h := dst_take hst.out hkc (by omega) (by have h := hf5 rfl; rw [hB.out] at h; exact h)
              rw [hoj.out] at h
              exact h
            · rw [(hf4 h0).1]; exact dst_bad hst.out h0)
          have hb42 : Hid (E = 0 → A ≤ 29 ∧ D ≤ 29 ∧ C < 16) := Lib.hid fun h => by
            by_cases h0 : e = 0
            · exact hb4.out h0
            · rw [(hf4 h0).1] at h; exact absurd h h0
          clear hV hM hE hf4 hf5 hst hb4 hog hoj
          go_upto_region 14 with (fail)
          have HD0 := H.drew
          clear H
          refine Trk.wp_region_new (fun σ w1 => Own w0 w1 (slc 3 1 (.slice (some ⟨b8, 0, none⟩) 19 c8) 19 (nums X) :: slc 3 1 (.slice (some ⟨bA, 0, none⟩) 19 19) 19 (nums ordL) :: (if (σ 6).isSome then Sta g rg s M out most E else Sta g rg s n4 out most e) :: ps)) 8 [] [6] (by intro k hk; simp at hk; subst hk; exact ⟨by omega, by simp, fun o ho => by simp at ho; subst ho; rfl⟩) (by kernel_rfl) (by kernel_rfl) HD0 ?_
          simp only [List.take_succ_cons, List.take_zero, List.drop_succ_cons, List.drop_zero]
          repeat
            first
            | (refine Trk.calm_value (v := ?_) (by decide) (by decide) rfl (fun σ w1 hS => ?_) ?_
               rotate_left
               · have c4 := HR.out _ _ _ hS
                 first | (go_simp; rfl) | rfl
               simp only [Act.put, List.setIfInBounds_toArray, List.set_cons_zero, List.set_cons_succ])
            | (refine Trk.calm_skip (by decide) rfl ?_
               simp only [Act.put, List.setIfInBounds_toArray, List.set_cons_zero, List.set_cons_succ])
          refine kcalm_call (v := .int .i64 V) (by decide) (by decide) rfl (fun w1 => (by go_simp; first | exact ⟨rfl, rfl⟩ | rfl)) (fun σ w1 hS hn => ?_) ?_
          · rw [hn] at hS
            have hS2 : Own w0 w1 (slc 3 1 (.slice (some ⟨b8, 0, none⟩) 19 c8) 19 (nums X) :: slc 3 1 (.slice (some ⟨bA, 0, none⟩) 19 19) 19 (nums ordL) :: Sta g rg s n4 out most e :: ps) := hS
            refine (HT.out _ _ (hS2.front 2 rfl)).mono ?_
            rintro e5 w6 ⟨_, rfl, rfl, h5⟩
            refine ⟨rfl, ?_⟩
            have h6 := (h5.front 2 rfl).front 2 rfl
            simpa [Sig.upd] using h6
          simp only [Act.put, List.setIfInBounds_toArray, List.set_cons_zero, List.set_cons_succ]
          repeat
            first
            | (refine Trk.calm_value (v := ?_) (by decide) (by decide) rfl (fun σ w1 hS => ?_) ?_
               rotate_left
               · have c4 := HR.out _ _ _ hS
                 first | (go_simp; rfl) | rfl
               simp only [Act.put, List.setIfInBounds_toArray, List.set_cons_zero, List.set_cons_succ])
            | (refine Trk.calm_skip (by decide) rfl ?_
               simp only [Act.put, List.setIfInBounds_toArray, List.set_cons_zero, List.set_cons_succ])
          refine Trk.calm_nil ?_
          intro σ wd _ hσ HD
          have h8 := hσ 6 (by decide)
          rw [if_pos h8] at HD
          clear hσ h8 HD0 HT HR
          simp only [putNew, List.foldl_nil]
          go_wp2_with (refine wpList_store_slc rfl _ _ rfl rfl HD (.int .i64 V) rfl (by kernel_rfl) (by omega) rfl ?_; clear HD; intro w7 H)
          go_roundw
          case rel => exact ⟨k + 1, xs ++ [V], X.set oj V, M, E, by go_num, by omega, by rw [List.length_set]; exact hX.out, hf3, hb42, hst2, by rw [nums_set] at H; exact H⟩
          case measure => simp [intOf]; omega
        · have hend : Hid (e = 0 → X = unordF xs ∧ G = codesC B A D xs n4) := Lib.hid fun h0 => by
            subst h0
            have h := hb4.out rfl
            exact dst_end2 hst.out (by omega)
          have hbad : Hid (e ≠ 0 → ∀ v m, GotR G v m e) := Lib.hid hst.out.2
          have hrX : Hid (Reads w0 (slc 3 1 (.slice (some ⟨b8, 0, none⟩) 19 c8) 19 (nums X) :: slc 3 1 (.slice (some ⟨bA, 0, none⟩) 19 19) 19 (nums ordL) :: ps) 1 (.slice (some ⟨b8, 0, none⟩) 19 c8) 19 (nums X)) := Lib.hid fun w' h => h.rd
          have KM := Lib.hid (rmaytable_any H.rd (by omega))
          obtain ⟨x, hx⟩ : ∃ x, Hid (terrF X = x) := ⟨_, rfl⟩
          rw [hx.out] at KM
          obtain ⟨bd, hbd⟩ : ∃ b, Hid ((x != 0) = b) := ⟨_, rfl⟩
          obtain ⟨e6, he6⟩ : ∃ x, Hid (fltF bd 2 e = x) := ⟨_, rfl⟩
          have hP : Hid ((e6 ≠ 0 → ∀ v m, GotR G v m e6) ∧ (e6 = 0 → terrF X = 0 ∧ X = unordF xs ∧ G = codesC B A D xs n4)) := Lib.hid (by
            rw [← he6.out]
            by_cases h0 : e = 0
            · obtain ⟨h1, h2⟩ := hend.out h0
              rw [h0]
              by_cases hx0 : x = 0
              · have : bd = false := by rw [← hbd.out, hx0]; rfl
                rw [this, flt_no]
                exact ⟨fun h => absurd rfl h, fun _ => ⟨hx.out.trans hx0, h1, h2⟩⟩
              · have : bd = true := by rw [← hbd.out]; simp [hx0]
                rw [this, flt_yes]
                exact ⟨fun _ => (codes_end (n' := 0) (l := []) (e' := 0) h2).1 (by rw [← h1, hx.out]; exact hx0), fun h => by omega⟩
            · rw [flt_ne h0]
              exact ⟨fun _ => hbad.out h0, fun h => absurd h h0⟩)
          clear hend hbad hst hx
          have hwN : IntKind.i64.wrap (257 + (A : Int) + (1 + (D : Int))) = 257 + (A : Int) + (1 + (D : Int)) := IntWalk.i64_in _ ⟨by omega, by omega⟩
          have hexit : ¬ (k : Int) < 4 + (C : Int) ∨ (k : Int) < 4 + (C : Int) ∧ ¬ (k : Int) < 19 := by omega
          have hbd1 := hbd.out
          rcases hexit with hq | ⟨hq1, hq2⟩
          all_goals
            go_wp2_with fail
            refine KM.out.mono ?_
            rintro e0 w6 ⟨_, rfl, rfl, J⟩
            replace H := H.join J
            clear J KM
            have K1 := Lib.hid (rfault_any (g := g) (rg := rg) bd 2 (H.front 2 rfl))
            rw [he6.out] at K1
            go_wp2_with fail
            refine K1.out.mono ?_
            rintro e0 w7 ⟨_, rfl, H7⟩
            clear H K1 hbd hbd1
            have KL := Lib.hid (rlengths_any (257 + A + (1 + D)) hrX.out hX.out (by omega) (fun h => (hP.out.2 h).1) (by omega) hs hn4 H7)
            rw [show ((257 + A + (1 + D) : Nat) : Int) = 257 + (A : Int) + (1 + (D : Int)) by omega] at KL
            go_wp2_with fail
            refine KL.out.mono ?_
            rintro e0 w8 ⟨_, rfl, l, n5, e7, hn5, hl1, hl2, hl3, hg5, H8⟩
            have hbad : Hid (e7 ≠ 0 → ∀ v m, GotR G v m e7) := Lib.hid fun h7 => by
              by_cases h6 : e6 = 0
              · obtain ⟨h1, h2, h3⟩ := hP.out.2 h6
                have h4 := hg5 h6
                rw [hB.out, h2] at h4
                exact ((codes_end (n' := n5) (l := l) (e' := e7) h3).2 (by rw [← h2]; exact h1) h4).1 h7
              · rw [hl3 h6]; exact hP.out.1 h6
            have hgood : Hid (e7 = 0 → G = if l.getD 256 0 ≠ 0 ∧ terrF (l.take (257 + A)) = 0 ∧ terrF (l.drop (257 + A)) = 0 then .ok (l.take (257 + A), l.drop (257 + A)) n5 else .bad 2) := Lib.hid fun h7 => by
              by_cases h6 : e6 = 0
              · obtain ⟨h1, h2, h3⟩ := hP.out.2 h6
                have h4 := hg5 h6
                rw [hB.out, h2] at h4
                exact ((codes_end (n' := n5) (l := l) (e' := e7) h3).2 (by rw [← h2]; exact h1) h4).2 h7
              · rw [hl3 h6] at h7; exact absurd h7 h6
            clear hP hl3 hg5 KL H7 hrX
            obtain ⟨a, c, rfl, hc1, hc2⟩ := H8.rd.shape
            have ce := (H8.front 1 rfl).sta_e
            by_cases he7 : e7 = 0
            case neg =>
              have heb : (e7 != 0) = true := by simp [he7]
              replace he7 := Lib.hid he7
              replace hbad := Lib.hid (hbad.out he7.out)
              clear hl2 hgood
              go_wp2_with fail
              go_ret2
              exact ⟨_, rfl, show RTolP _ _ _ _ _ _ _ _ _ _ from ⟨_, _, ([], []), n5, e7, rfl, hn5, hbad.out _ _, fun _ => (((H8.drop).front 1 rfl).drop.front 1 rfl).drop, fun h => absurd h he7.out⟩⟩
            subst he7
            have hlN := Lib.hid (hl2 rfl)
            have hGl := Lib.hid (hgood.out rfl)
            clear hl1 hl2 hgood hbad
            obtain ⟨bl, c', hbl, -, -, -, -, hcl, -⟩ := H8.at (by rw [nums_length, hlN.out]; omega)
            cases hbl
            obtain ⟨y, hy⟩ : ∃ x, Hid (l.getD 256 0 = x) := ⟨_, rfl⟩
            have c256 : Hid (∀ w1 qs, Own w0 w1 (slc 3 1 (.slice (some ⟨bl, 0, none⟩) l.length c) l.length (nums l) :: qs) → w1.cell? ⟨bl, 256, none⟩ = some (.int .i64 y)) := Lib.hid fun w1 qs h => by
              obtain ⟨_, _, e9, h9⟩ := rd_at h.rd (Own.start w1) (i := 256) (by rw [hlN.out]; omega)
              cases e9
              rw [hy.out] at h9
              simpa using h9
            clear hcl
            rw [hy.out] at hGl
            obtain ⟨M, hM⟩ : ∃ M, Hid (l.length = M) := ⟨_, rfl⟩
            rw [hM.out] at H8 hlN hc1 c256 ⊢
            have hMb : 257 + A + 1 ≤ M := by have := hlN.out; omega
            have hMb2 : M ≤ 200000 := by have := hlN.out; omega
            have h256 : (256 : Int) < (M : Int) := by omega
            obtain ⟨l1, hl1⟩ : ∃ l1, Hid (l.take (257 + A) = l1) := ⟨_, rfl⟩
            obtain ⟨l2, hl2⟩ : ∃ l2, Hid (l.drop (257 + A) = l2) := ⟨_, rfl⟩
            have hl1n : Hid (l1.length = 257 + A) := Lib.hid (by rw [← hl1.out, List.length_take, hM.out]; omega)
            have hl2n : Hid (l2.length = M - (257 + A)) := Lib.hid (by rw [← hl2.out, List.length_drop, hM.out])
            rw [hl1.out, hl2.out] at hGl
            have hrd : ∀ (w1 : World) (qs : List Piece), Own w0 w1 (slc 3 1 (.slice (some ⟨bl, 0, none⟩) M c) M (nums l) :: qs) → Rd w1 1 (.slice (some ⟨bl, 0, none⟩) (257 + A) c) (257 + A) (nums l1) ∧ Rd w1 1 (.slice (some ⟨bl, 257 + A, none⟩) (M - (257 + A)) (c - (257 + A))) (M - (257 + A)) (nums l2) := fun w1 qs h => by
              have h1 := h.rd.take (k := 257 + A) (by omega)
              have h2 := h.rd.tail (k := 257 + A) (by omega)
              simp only [Nat.mul_one, Addr.add_lit, Nat.zero_add, nums, ← List.map_take, ← List.map_drop, hl1.out, hl2.out] at h1 h2
              exact ⟨h1, h2⟩
            replace hrd := Lib.hid hrd
            have hk1 : (257 : Int) + (A : Int) ≤ c := by omega
            have hk2 : (257 : Int) + (A : Int) ≤ M := by omega
            have hk3 : (0 : Int) ≤ 257 + (A : Int) := by omega
            have hk4 : ((257 : Int) + (A : Int)).toNat = 257 + A := by omega
            have hk5 : ¬ (257 + A = c) := by omega
            have hk6 : ¬ (c = 257 + A) := by omega
            have hk7 : M ≤ c := hc1
            go_upto_region 19 with (fail)
            go_cut [] (fun wx => ∃ e8 : Int, Hid (e8 = if y ≠ 0 ∧ terrF l1 = 0 ∧ terrF l2 = 0 then 0 else 2) ∧ Own w0 wx (Sta g rg s n5 out most e8 :: slc 3 1 (.slice (some ⟨bl, 0, none⟩) M c) M (nums l) :: ps))
            case first =>
              obtain ⟨t1, ht1⟩ : ∃ t1, Hid (terrF l1 = t1) := ⟨_, rfl⟩
              obtain ⟨t2, ht2⟩ : ∃ t2, Hid (terrF l2 = t2) := ⟨_, rfl⟩
              have KT1 := Lib.hid (fun w1 qs h => rmaytable_any (hrd.out w1 qs h).1 (by omega))
              have KT2 := Lib.hid (fun w1 qs h => rmaytable_any (hrd.out w1 qs h).2 (by omega))
              rw [ht1.out] at KT1
              rw [ht2.out] at KT2
              clear ce hrd
              have c0 := c256.out _ _ H8
              have hfin : ∀ (bd2 : Bool) (wz : World), (bd2 = true ↔ ¬ (y ≠ 0 ∧ t1 = 0 ∧ t2 = 0)) → Own w0 wz (Sta g rg s n5 out most (fltF bd2 2 0) :: slc 3 1 (.slice (some ⟨bl, 0, none⟩) M c) M (nums l) :: slc 3 1 (.slice (some ⟨b8, 0, none⟩) 19 c8) 19 (nums X) :: slc 3 1 (.slice (some ⟨bA, 0, none⟩) 19 19) 19 (nums ordL) :: ps) → ∃ e8 : Int, Hid (e8 = if y ≠ 0 ∧ terrF l1 = 0 ∧ terrF l2 = 0 then 0 else 2) ∧ Own w0 wz (Sta g rg s n5 out most e8 :: slc 3 1 (.slice (some ⟨bl, 0, none⟩) M c) M (nums l) :: ps) := fun bd2 wz h H => by
                refine ⟨fltF bd2 2 0, Lib.hid ?_, ((H.front 2 rfl).drop.front 2 rfl).drop⟩
                rw [ht1.out, ht2.out]
                cases bd2 with
                | true => rw [flt_yes, if_neg (h.1 rfl)]
                | false => rw [flt_no, if_pos (by have := h.2; exact Decidable.not_not.1 fun hh => by cases this hh)]
              replace hfin := Lib.hid hfin
              have KF := Lib.hid (fun (bd2 : Bool) (wz : World) (H : Own w0 wz (slc 3 1 (.slice (some ⟨bl, 0, none⟩) M c) M (nums l) :: Sta g rg s n5 out most 0 :: slc 3 1 (.slice (some ⟨b8, 0, none⟩) 19 c8) 19 (nums X) :: slc 3 1 (.slice (some ⟨bA, 0, none⟩) 19 19) 19 (nums ordL) :: ps)) => rfault_any (g := g) (rg := rg) bd2 2 (H.front 1 rfl))
              by_cases hy0 : y = 0
              · have hb1 : (y == 0) = true := by simp [hy0]
                have hq : Hid (true = true ↔ ¬ (y ≠ 0 ∧ t1 = 0 ∧ t2 = 0)) := Lib.hid (by simp [hy0])
                clear hy0
                go_wp2_with fail
                refine (KF.out true _ H8).mono ?_
                rintro e0 w9 ⟨_, rfl, H9⟩
                go_wp2
                go_meet
                exact hfin.out true _ (by simpa using hq.out) H9
              have hb1 : (y == 0) = false := by simp [hy0]
              go_wp2_with fail
              refine (KT1.out _ _ H8).mono ?_
              rintro e0 w9 ⟨_, rfl, rfl, J⟩
              replace H8 := H8.join J
              clear J c0
              by_cases ht10 : t1 = 0
              case neg =>
                have hb2 : (t1 != 0) = true := by simp [ht10]
                have hb2' : (t1 == 0) = false := by simp [ht10]
                have hq : Hid (¬ (y ≠ 0 ∧ t1 = 0 ∧ t2 = 0)) := Lib.hid (by simp [ht10])
                clear ht10 hy0
                go_wp2_with fail
                refine (KF.out true _ H8).mono ?_
                rintro e0 w10 ⟨_, rfl, H9⟩
                go_wp2
                go_meet
                exact hfin.out true _ ⟨fun _ => hq.out, fun _ => rfl⟩ H9
              have hb2 : (t1 != 0) = false := by simp [ht10]
              have hb2' : (t1 == 0) = true := by simp [ht10]
              go_wp2_with fail
              refine (KT2.out _ _ H8).mono ?_
              rintro e0 w10 ⟨_, rfl, rfl, J⟩
              replace H8 := H8.join J
              clear J
              by_cases ht20 : t2 = 0
              case neg =>
                have hb3 : (t2 != 0) = true := by simp [ht20]
                have hb3' : (t2 == 0) = false := by simp [ht20]
                have hq : Hid (¬ (y ≠ 0 ∧ t1 = 0 ∧ t2 = 0)) := Lib.hid (by simp [ht20])
                clear ht10 hy0 ht20
                go_wp2_with fail
                refine (KF.out true _ H8).mono ?_
                rintro e0 w11 ⟨_, rfl, H9⟩
                go_wp2
                go_meet
                exact hfin.out true _ ⟨fun _ => hq.out, fun _ => rfl⟩ H9
              have hb3 : (t2 != 0) = false := by simp [ht20]
              have hb3' : (t2 == 0) = true := by simp [ht20]
              have hq : Hid (y ≠ 0 ∧ t1 = 0 ∧ t2 = 0) := Lib.hid ⟨hy0, ht10, ht20⟩
              clear ht10 hy0 ht20
              go_wp2_with fail
              refine (KF.out false _ H8).mono ?_
              rintro e0 w11 ⟨_, rfl, H9⟩
              go_wp2
              go_meet
              exact hfin.out false _ ⟨fun h => (by cases h), fun h => absurd hq.out h⟩ H9
            case rest =>
            clear H8 ce
            obtain ⟨e8, he8, H⟩ := hcut
            go_upto_region 20 with (fail)
            refine wp_region_calm (fun w1 => Own w0 w1 (Sta g rg s n5 out most e8 :: slc 3 1 (.slice (some ⟨bl, 0, none⟩) M c) M (nums l) :: ps)) 7 (by kernel_rfl) (by kernel_rfl) H.drew ?_
            simp only [List.take_succ_cons, List.take_zero, List.drop_succ_cons, List.drop_zero]
            repeat
              first
              | (refine calm_value (v := ?_) (by decide) rfl (fun σ w1 hS => ?_) ?_
                 rotate_left
                 · skip
                   first | (go_simp; rfl) | rfl
                 simp only [Act.put, List.setIfInBounds_toArray, List.set_cons_zero, List.set_cons_succ])
              | (refine calm_skip (by decide) rfl ?_
                 simp only [Act.put, List.setIfInBounds_toArray, List.set_cons_zero, List.set_cons_succ])
            refine calm_nil ?_
            intro wd HD
            have hpost : Hid (RTolP w0 ps g rg s out most G (.tuple #[.slice (some ⟨bl, 0, none⟩) (257 + A) c, .slice (some ⟨bl, 257 + A, none⟩) (M - (257 + A)) (c - (257 + A))]) wd) := Lib.hid (by
              have e8c := he8.out
              have hGc := hGl.out
              by_cases hq : y ≠ 0 ∧ terrF l1 = 0 ∧ terrF l2 = 0
              · rw [if_pos hq] at e8c hGc
                subst e8c
                refine ⟨_, _, (l1, l2), n5, 0, rfl, hn5, by rw [hGc]; exact ⟨rfl, rfl, rfl⟩, fun h => absurd rfl h, fun _ => ⟨hq.2.1, hq.2.2, _, HD, fun w2 qs h => ?_⟩⟩
                have h1 := hrd.out w2 qs h
                simp only
                rw [hl1n.out, hl2n.out]
                exact h1
              · rw [if_neg hq] at e8c hGc
                subst e8c
                exact ⟨_, _, (l1, l2), n5, 2, rfl, hn5, by rw [hGc]; rfl, fun _ => (HD.front 1 rfl).drop, fun h => absurd h (by decide)⟩)
            clear H he8 hGl hrd c256
            go_wp2_with fail
            go_ret2
            exact ⟨_, rfl, hpost.out⟩
end Go.Proofs.Ytpbodonmiepilaa
/- flate: the document's Lens, Dists. -/
namespace Go.Proofs.Ytpbodonmiepilaa
open Go.RowKit

set_option maxRecDepth 100000 in
set_option maxHeartbeats 1600000 in
theorem rlens_any (w : World) : Calls Try.prog 66 #[] w (Ret fun r w' => ∃ v u, r = .tuple #[v, u] ∧ Own w w' [slc 3 1 v 29 (nums (fsts lensT)), slc 3 1 u 29 (nums (snds lensT))]) := by
  have H := ((Own.start w).nil 3 1).nil 3 1
  go_enter Try.func66, Try.ntmps66
  go_wp2_with fail
  go_loopw [2, 3, 4, 5] (fun s2 s3 s4 s5 wx => ∃ k : Nat, s5 = .int .i64 (257 + (k : Int)) ∧ k ≤ 28 ∧ s4 = .int .i64 (lenF k) ∧ Own w wx [slc 3 1 s2 k (nums (lenFs k)), slc 3 1 s3 k (nums (lenMs k))]) (fun _ _ _ s5 _ => 285 - (intOf s5).toNat)
  case atStart => exact ⟨0, by go_num, by omega, by go_num, H⟩
  case round =>
    clear H
    obtain ⟨k, rfl, hk, rfl, H⟩ := hrel
    obtain ⟨a2, c2, rfl, -⟩ := H.rd.shape
    obtain ⟨a3, c3, rfl, -⟩ := (H.front 1 rfl).rd.shape
    by_cases hlt : k < 28
    · have hI : 257 + (k : Int) < 285 := by omega
      obtain ⟨h1, h2, h3, h4, -⟩ := len_step ⟨k, hlt⟩
      simp only at h1 h2 h3 h4
      have hF := Lib.hid (lenFs_succ hlt)
      have hM := Lib.hid (lenMs_succ hlt)
      obtain ⟨x, hx⟩ : ∃ x, Hid (lenF k = x) := ⟨_, rfl⟩
      obtain ⟨y, hy⟩ : ∃ y, Hid (lenM k = y) := ⟨_, rfl⟩
      obtain ⟨z, hz⟩ : ∃ z, Hid (lenF (k + 1) = z) := ⟨_, rfl⟩
      rw [hz.out, hx.out, hy.out] at h1
      rw [hx.out] at h3 ⊢
      rw [hy.out] at h2 h4
      rw [hx.out] at hF
      rw [hy.out] at hM
      have HF := Lib.hid (show nums (lenFs k) ++ [.int .i64 (x : Int)] = nums (lenFs (k + 1)) by rw [hF.out]; simp [nums])
      have HM := Lib.hid (show nums (lenMs k) ++ [.int .i64 (y : Int)] = nums (lenMs (k + 1)) by rw [hM.out]; simp [nums])
      clear hF hM
      have hsw : IntKind.i64.wrap (257 + (k : Int) + 1) = 257 + (k : Int) + 1 := IntWalk.i64_in _ ⟨by omega, by omega⟩
      have hp : (2 : Int) ^ y = ((2 ^ y : Nat) : Int) := by rw [Int.natCast_pow]; rfl
      obtain ⟨p, hpp⟩ : ∃ p, 2 ^ y = p := ⟨_, rfl⟩
      rw [hpp] at hp h1
      have hy13 : y ≤ 13 := by omega
      have hpb : p ≤ 8192 := by rw [← hpp]; exact Nat.pow_le_pow_right (n := 2) (by omega) hy13
      have hpw : IntKind.i64.wrap (2 ^ y) = (p : Int) := by rw [hp]; exact IntWalk.i64_in _ ⟨by omega, by omega⟩
      have hxp : IntKind.i64.wrap ((x : Int) + (p : Int)) = (z : Int) := by rw [h1, Int.natCast_add]; exact IntWalk.i64_in _ ⟨by omega, by omega⟩
      have hy63 : (y : Int) < 64 := by omega
      clear hpp
      by_cases h8 : k < 8
      case' pos =>
        rw [if_pos h8] at h2
        subst h2
        rw [show ((0 : Nat) : Int) = 0 from rfl] at HM
        have h8I : ¬ 265 ≤ 257 + (k : Int) := by omega
      case' neg =>
        rw [if_neg h8] at h2
        have h8I : 265 ≤ 257 + (k : Int) := by omega
        have hsb : IntKind.i64.wrap (257 + (k : Int) - 261) = 257 + (k : Int) - 261 := IntWalk.i64_in _ ⟨by omega, by omega⟩
        have hdv : (257 + (k : Int) - 261) / 4 = (y : Int) := by omega
        have hdv2 : (257 + (k : Int) - 261).tdiv 4 = (y : Int) := by rw [Int.tdiv_eq_ediv_of_nonneg (by omega)]; exact hdv
        clear h2
      all_goals
        clear h1
        go_upto_region 11 with (first
          | (at_builtin; refine wpList_append_one rfl _ _ rfl Try.underlying22 intInfo rfl (by decide) rfl H (news := [.int .i64 (x : Int)]) rfl rfl rfl (by simp [Value.oneCell']) (by omega) (by omega) ?_; clear H; intro v' w' H; rw [HF.out] at H; obtain ⟨a4, c4, rfl, -⟩ := H.rd.shape)
          | (at_builtin; refine wpList_append_one rfl _ _ rfl Try.underlying22 intInfo rfl (by decide) rfl H.swap (news := [.int .i64 0]) rfl rfl rfl (by simp [Value.oneCell']) (by omega) (by omega) ?_; clear H; intro v' w' H; rw [HM.out] at H; replace H := H.swap; obtain ⟨a5, c5, rfl, -⟩ := (H.front 1 rfl).rd.shape)
          | (at_builtin; refine wpList_append_one rfl _ _ rfl Try.underlying22 intInfo rfl (by decide) rfl H.swap (news := [.int .i64 (y : Int)]) rfl rfl rfl (by simp [Value.oneCell']) (by omega) (by omega) ?_; clear H; intro v' w' H; rw [HM.out] at H; replace H := H.swap; obtain ⟨a5, c5, rfl, -⟩ := (H.front 1 rfl).rd.shape))
        clear HF HM
        go_wp2_with fail
        go_roundw
        case rel => exact ⟨k + 1, by go_num, by omega, by rw [hz.out], H⟩
        case measure => simp [intOf]; omega
    · obtain rfl : k = 28 := by omega
      have hI : ¬ 257 + ((28 : Nat) : Int) < 285 := by omega
      have HF := Lib.hid (show nums (lenFs 28) ++ [.int .i64 258] = nums (fsts lensT) from rfl)
      have HM := Lib.hid (show nums (lenMs 28) ++ [.int .i64 0] = nums (snds lensT) from rfl)
      go_wp2_with (first
        | (at_builtin; refine wpList_append_one rfl _ _ rfl Try.underlying22 intInfo rfl (by decide) rfl H (news := [.int .i64 258]) rfl rfl rfl (by simp [Value.oneCell']) (by omega) (by omega) ?_; clear H; intro v' w' H; rw [HF.out] at H; obtain ⟨a4, c4, rfl, -⟩ := H.rd.shape)
        | (at_builtin; refine wpList_append_one rfl _ _ rfl Try.underlying22 intInfo rfl (by decide) rfl H.swap (news := [.int .i64 0]) rfl rfl rfl (by simp [Value.oneCell']) (by omega) (by omega) ?_; clear H; intro v' w' H; rw [HM.out] at H; replace H := H.swap; obtain ⟨a5, c5, rfl, -⟩ := (H.front 1 rfl).rd.shape))
      go_ret2
      exact ⟨_, rfl, _, _, rfl, H⟩
set_option maxRecDepth 100000 in
set_option maxHeartbeats 1600000 in
theorem rdists_any (w : World) : Calls Try.prog 67 #[] w (Ret fun r w' => ∃ v u, r = .tuple #[v, u] ∧ Own w w' [slc 3 1 v 30 (nums (fsts distsT)), slc 3 1 u 30 (nums (snds distsT))]) := by
  have H := ((Own.start w).nil 3 1).nil 3 1
  go_enter Try.func67, Try.ntmps67
  go_wp2_with fail
  go_loopw [2, 3, 4, 5] (fun s2 s3 s4 s5 wx => ∃ k : Nat, s5 = .int .i64 ((k : Int)) ∧ k ≤ 30 ∧ s4 = .int .i64 (disF k) ∧ Own w wx [slc 3 1 s2 k (nums (disFs k)), slc 3 1 s3 k (nums (disMs k))]) (fun _ _ _ s5 _ => 30 - (intOf s5).toNat)
  case atStart => exact ⟨0, by go_num, by omega, by go_num, H⟩
  case round =>
    clear H
    obtain ⟨k, rfl, hk, rfl, H⟩ := hrel
    obtain ⟨a2, c2, rfl, -⟩ := H.rd.shape
    obtain ⟨a3, c3, rfl, -⟩ := (H.front 1 rfl).rd.shape
    by_cases hlt : k < 30
    · have hI : (k : Int) < 30 := by omega
      obtain ⟨h1, h2, h3, h4, -⟩ := dis_step ⟨k, hlt⟩
      simp only at h1 h2 h3 h4
      have hF := Lib.hid (disFs_succ hlt)
      have hM := Lib.hid (disMs_succ hlt)
      obtain ⟨x, hx⟩ : ∃ x, Hid (disF k = x) := ⟨_, rfl⟩
      obtain ⟨y, hy⟩ : ∃ y, Hid (disM k = y) := ⟨_, rfl⟩
      obtain ⟨z, hz⟩ : ∃ z, Hid (disF (k + 1) = z) := ⟨_, rfl⟩
      rw [hz.out, hx.out, hy.out] at h1
      rw [hx.out] at h3 ⊢
      rw [hy.out] at h2 h4
      rw [hx.out] at hF
      rw [hy.out] at hM
      have HF := Lib.hid (show nums (disFs k) ++ [.int .i64 (x : Int)] = nums (disFs (k + 1)) by rw [hF.out]; simp [nums])
      have HM := Lib.hid (show nums (disMs k) ++ [.int .i64 (y : Int)] = nums (disMs (k + 1)) by rw [hM.out]; simp [nums])
      clear hF hM
      have hsw : IntKind.i64.wrap ((k : Int) + 1) = (k : Int) + 1 := IntWalk.i64_in _ ⟨by omega, by omega⟩
      have hp : (2 : Int) ^ y = ((2 ^ y : Nat) : Int) := by rw [Int.natCast_pow]; rfl
      obtain ⟨p, hpp⟩ : ∃ p, 2 ^ y = p := ⟨_, rfl⟩
      rw [hpp] at hp h1
      have hy13 : y ≤ 13 := by omega
      have hpb : p ≤ 8192 := by rw [← hpp]; exact Nat.pow_le_pow_right (n := 2) (by omega) hy13
      have hpw : IntKind.i64.wrap (2 ^ y) = (p : Int) := by rw [hp]; exact IntWalk.i64_in _ ⟨by omega, by omega⟩
      have hxp : IntKind.i64.wrap ((x : Int) + (p : Int)) = (z : Int) := by rw [h1, Int.natCast_add]; exact IntWalk.i64_in _ ⟨by omega, by omega⟩
      have hy63 : (y : Int) < 64 := by omega
      clear hpp
      by_cases h8 : k < 4
      case' pos =>
        rw [if_pos h8] at h2
        subst h2
        rw [show ((0 : Nat) : Int) = 0 from rfl] at HM
        have h8I : ¬ 4 ≤ (k : Int) := by omega
      case' neg =>
        rw [if_neg h8] at h2
        have h8I : 4 ≤ (k : Int) := by omega
        have hsb : IntKind.i64.wrap ((k : Int) - 2) = (k : Int) - 2 := IntWalk.i64_in _ ⟨by omega, by omega⟩
        have hdv : ((k : Int) - 2) / 2 = (y : Int) := by omega
        have hdv2 : ((k : Int) - 2).tdiv 2 = (y : Int) := by rw [Int.tdiv_eq_ediv_of_nonneg (by omega)]; exact hdv
        clear h2
      all_goals
        clear h1
        go_upto_region 11 with (first
          | (at_builtin; refine wpList_append_one rfl _ _ rfl Try.underlying22 intInfo rfl (by decide) rfl H (news := [.int .i64 (x : Int)]) rfl rfl rfl (by simp [Value.oneCell']) (by omega) (by omega) ?_; clear H; intro v' w' H; rw [HF.out] at H; obtain ⟨a4, c4, rfl, -⟩ := H.rd.shape)
          | (at_builtin; refine wpList_append_one rfl _ _ rfl Try.underlying22 intInfo rfl (by decide) rfl H.swap (news := [.int .i64 0]) rfl rfl rfl (by simp [Value.oneCell']) (by omega) (by omega) ?_; clear H; intro v' w' H; rw [HM.out] at H; replace H := H.swap; obtain ⟨a5, c5, rfl, -⟩ := (H.front 1 rfl).rd.shape)
          | (at_builtin; refine wpList_append_one rfl _ _ rfl Try.underlying22 intInfo rfl (by decide) rfl H.swap (news := [.int .i64 (y : Int)]) rfl rfl rfl (by simp [Value.oneCell']) (by omega) (by omega) ?_; clear H; intro v' w' H; rw [HM.out] at H; replace H := H.swap; obtain ⟨a5, c5, rfl, -⟩ := (H.front 1 rfl).rd.shape))
        clear HF HM
        go_wp2_with fail
        go_roundw
        case rel => exact ⟨k + 1, by go_num, by omega, by rw [hz.out], H⟩
        case measure => simp [intOf]; omega
    · obtain rfl : k = 30 := by omega
      have hI : ¬ ((30 : Nat) : Int) < 30 := by omega
      go_wp2_with fail
      go_ret2
      exact ⟨_, rfl, _, _, rfl, H⟩
theorem len_tabs : (fsts lensT).length = 29 ∧ (snds lensT).length = 29 ∧ (fsts distsT).length = 30 ∧ (snds distsT).length = 30 := ⟨rfl, rfl, rfl, rfl⟩
end Go.Proofs.Ytpbodonmiepilaa
