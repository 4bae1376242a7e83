/-
  huff: the walk of the document's Codes.
-/
import Derived.Test.YtfeamlbkogigkaaHufT
namespace Go.Proofs.Ytfeamlbkogigkaa
open Go.RowKit

theorem codes_take_succ {F : List Int} {s : Nat} (h : s < F.length) : (codesF F).take (s + 1) = (codesF F).take s ++ [codeF F s] := by
  rw [List.take_add_one, getD_get (by rw [codesF_length]; exact h), codesF_get h]
  rfl
theorem pow_pos_nat (d : Nat) (h : d ≤ 15) : ∃ p : Int, (2 : Int) ^ d = p ∧ 1 ≤ p ∧ p ≤ 32768 := by
  refine ⟨_, rfl, ?_, ?_⟩
  · have : (0 : Int) < 2 ^ d := Int.pow_pos (by omega)
    omega
  · have : (2 : Nat) ^ d ≤ 2 ^ 15 := Nat.pow_le_pow_right (by omega) h
    have h2 : ((2 ^ d : Nat) : Int) ≤ ((2 ^ 15 : Nat) : Int) := Int.ofNat_le.2 this
    simpa using h2

set_option maxRecDepth 100000 in
set_option maxHeartbeats 6400000 in
theorem rcodes_any {w : World} {v : Value} {n : Nat} {F : List Int} (hr : Rd w 1 v n (nums F)) (hn : n ≤ 1000000) :
    Calls Try.prog 19 #[v] w (Ret fun r w' => ∃ ov, r = .tuple #[ov, .int .i64 (cerrF F)] ∧ Own w w' [slc 3 1 ov (cresF F).length (nums (cresF F))]) := by
  have hl := Lib.hid (rd_len hr)
  obtain ⟨a, c, rfl, hc1, hc2⟩ := hr.shape
  have HR := Lib.hid hr
  obtain ⟨er, her⟩ : ∃ er, Hid (cerrF F = er) := ⟨_, rfl⟩
  obtain ⟨R, hRes⟩ : ∃ R, Hid (cresF F = R) := ⟨_, rfl⟩
  rw [her.out, hRes.out]
  obtain ⟨RL, hRL⟩ : ∃ RL, Hid (R.length = RL) := ⟨_, rfl⟩
  rw [hRL.out]
  obtain ⟨Z, hZ⟩ : ∃ Z, Hid (mayF F = Z) := ⟨_, rfl⟩
  have HC := Lib.hid (rmay_any hr hn)
  rw [hZ.out] at HC
  have hnil : er ≠ 0 → R = [] ∧ RL = 0 := fun h => by
    have : R = [] := by rw [← hRes.out]; unfold cresF; rw [her.out, if_neg h]
    exact ⟨this, by rw [← hRL.out, this]; rfl⟩
  have HNIL := Lib.hid hnil
  have HW := Lib.hid (fun (h : ∀ x ∈ F, 0 ≤ x ∧ x ≤ 15) w' (h1 : Own w w' []) => rweight_any (hr.old h1) hn h)
  clear hnil hr
  go_enter Try.func19, Try.ntmps19
  go_wp2_with fail
  refine HC.out.mono ?_
  rintro e w1 ⟨_, rfl, rfl, H⟩
  clear HC
  cases Z with
  | false =>
    have e1 : Hid (er = 1) := Lib.hid (by rw [← her.out]; unfold cerrF; rw [hZ.out]; rfl)
    obtain ⟨e2, e3⟩ := HNIL.out (by rw [e1.out]; decide)
    subst e3
    have E2 := Lib.hid e2
    clear e2
    go_wp2_with fail
    go_ret2
    refine ⟨_, rfl, _, by rw [e1.out]; rfl, ?_⟩
    rw [E2.out]
    exact H.bare.nil 3 1
  | true =>
    have hm := mayF_len hZ.out
    have HF := Lib.hid hm.2
    have hn3 : n ≤ 320 := by have := hm.1; have := hl.out; omega
    have HW2 := Lib.hid (HW.out hm.2 w1 H)
    obtain ⟨wt, hwt⟩ : ∃ wt, Hid (sumF wtF F = wt) := ⟨_, rfl⟩
    rw [hwt.out] at HW2
    clear hm HW
    by_cases hw : wt ≤ 32768
    · have e1 : Hid (er = 0) := Lib.hid (by rw [← her.out]; unfold cerrF; rw [hZ.out, if_pos rfl, hwt.out, if_pos (show wt ≤ 2 ^ 15 by omega)])
      have e2 : Hid (codesF F = R) := Lib.hid (by rw [← hRes.out]; unfold cresF; rw [her.out, e1.out]; rfl)
      have hRl : n = RL := by rw [← hRL.out, ← e2.out, codesF_length]; exact hl.out.symm
      subst hRl
      have hwI : ¬ (32768 : Int) < wt := by omega
      go_wp2_with fail
      refine HW2.out.mono ?_
      rintro e w2 ⟨_, rfl, rfl, H1⟩
      have H := (H.join H1).nil 3 1
      clear H1 HW2
      go_wp2_with fail
      go_loopw [4, 5] (fun s4 s5 wx => ∃ s : Nat, s5 = .int .i64 s ∧ s ≤ n ∧ Own w wx [slc 3 1 s4 s (nums ((codesF F).take s))]) (fun _ s5 _ => n - (intOf s5).toNat)
      case atStart => exact ⟨0, by go_num, by omega, by simpa [nums] using H⟩
      case round =>
        clear H
        obtain ⟨s, rfl, hs, H⟩ := hrel
        by_cases hlt : s < n
        · have hsI : (s : Int) < (n : Int) := by omega
          have hsl : s < F.length := by have := hl.out; omega
          obtain ⟨b, o, rfl, c1⟩ := rd_at HR.out H hlt
          have hy := HF.out (F.getD s 0) (by
            rw [List.getD_eq_getElem?_getD, List.getElem?_eq_getElem hsl]
            exact List.getElem_mem _)
          have hct := codes_take_succ hsl
          by_cases h0 : F.getD s 0 = 0
          · have hcode : codeF F s = 0 := by unfold codeF; rw [if_neg (by omega)]
            rw [hcode] at hct
            have hst : nums ((codesF F).take s) ++ [.int .i64 0] = nums ((codesF F).take (s + 1)) := by rw [hct]; simp [nums]
            have HST := Lib.hid hst
            rw [h0] at c1
            clear hst hct hcode h0 hy
            go_wp2_with (at_builtin; refine wpList_append_one rfl _ _ rfl Try.underlying22 intInfo rfl (by decide) rfl H (news := [.int .i64 0]) rfl rfl rfl (by simp [Value.oneCell']) (by omega) (by omega) ?_; clear H c1; intro v' w' H; rw [HST.out] at H)
            go_roundw
            case rel => exact ⟨s + 1, by go_num, by omega, H⟩
            case measure => simp [intOf]; omega
          · have hpos : 0 < F.getD s 0 := by omega
            have hsh := bef_shift HF.out hsl hpos
            obtain ⟨m, hm⟩ : ∃ m : Nat, F.getD s 0 = m := ⟨(F.getD s 0).toNat, by omega⟩
            have hst : nums ((codesF F).take s) ++ [.int .i64 (codeF F s)] = nums ((codesF F).take (s + 1)) := by rw [hct]; simp [nums]
            have HST := Lib.hid hst
            have hm1 : 1 ≤ m := by omega
            have hm2 : m ≤ 15 := by omega
            have HM := Lib.hid hm
            rw [hm] at c1 hsh
            rw [Int.toNat_natCast, hl.out] at hsh
            have HSH := Lib.hid hsh
            have hmz : ((m : Int) == 0) = false := by simp; omega
            clear hst hct h0 hy hpos hm hsh
            go_wp2_with fail
            go_loopw [6, 7] (fun s6 s7 wx => ∃ t : Nat, s7 = .int .i64 t ∧ t ≤ n ∧ s6 = .int .i64 (befN F s t) ∧ Own w wx [slc 3 1 u4 s (nums ((codesF F).take s))]) (fun _ s7 _ => n - (intOf s7).toNat)
            case atStart => exact ⟨0, by go_num, by omega, by simp [befN], H⟩
            case round =>
              clear H c1
              obtain ⟨t, rfl, ht, rfl, H⟩ := hrel
              by_cases htn : t < n
              · have htI : (t : Int) < (n : Int) := by omega
                have g : ∀ (ps' : List Piece) (w' : World), Own w w' ps' → w'.cell? ⟨b, o + s, none⟩ = some (.int .i64 m) ∧ w'.cell? ⟨b, o + t, none⟩ = some (.int .i64 (F.getD t 0)) := fun ps' w' h => by
                  obtain ⟨b1, o1, he, h1⟩ := rd_at HR.out h hlt
                  obtain ⟨b2, o2, he2, h2⟩ := rd_at HR.out h htn
                  cases he; cases he2
                  rw [HM.out] at h1
                  exact ⟨h1, h2⟩
                have hbl : Hid (befN F s (t + 1) = befN F s t + befT F s t) := Lib.hid rfl
                have hbt : befT F s t = if 0 < F.getD t 0 ∧ (F.getD t 0 < (m : Int) ∨ F.getD t 0 = (m : Int) ∧ t < s) then 2 ^ (15 - (F.getD t 0).toNat) else 0 := by unfold befT; rw [HM.out]
                have hx := HF.out (F.getD t 0) (by
                  rw [List.getD_eq_getElem?_getD, List.getElem?_eq_getElem (by have := hl.out; omega)]
                  exact List.getElem_mem _)
                have hbb := befN_bounds (l := F) HF.out s t
                have hbb2 := befT_bounds (l := F) HF.out s t
                generalize F.getD t 0 = x at *
                generalize befT F s t = z at *
                obtain ⟨q, hq⟩ : ∃ q, Hid (befN F s t = q) := ⟨_, rfl⟩
                rw [hq.out] at hbb hbl ⊢
                obtain ⟨bb, hbbE⟩ : ∃ bb, decide (0 < x ∧ (x < (m : Int) ∨ x = (m : Int) ∧ t < s)) = bb := ⟨_, rfl⟩
                have HBB := Lib.hid hbbE
                have G := Lib.hid g
                have HBT := Lib.hid hbt
                clear g hbt hbbE
                go_upto_region 15 with (fail)
                go_cut [65] (fun s65 wx => s65 = .bool bb ∧ Own w wx [slc 3 1 u4 s (nums ((codesF F).take s))])
                case first =>
                  have hb := HBB.out
                  by_cases g1 : 0 < x
                  case' neg =>
                    have e : Hid (bb = false) := Lib.hid (by rw [← hb]; simp; omega)
                  case' pos =>
                    by_cases g2 : x < (m : Int)
                    case' pos =>
                      have e : Hid (bb = true) := Lib.hid (by rw [← hb]; simp; omega)
                    case' neg =>
                      by_cases g3 : x = (m : Int)
                      case' neg =>
                        have g4 : (x == (m : Int)) = false := by simp; omega
                        have e : Hid (bb = false) := Lib.hid (by rw [← hb]; simp; omega)
                      case' pos =>
                        have g4 : ((m : Int) == (m : Int)) = true := by simp
                        subst g3
                        have hmp : 0 < m := by omega
                        by_cases g5 : t < s
                        case' pos =>
                          have g5I : (t : Int) < (s : Int) := by omega
                          have e : Hid (bb = true) := Lib.hid (by rw [← hb]; simp; omega)
                        case' neg =>
                          have g5I : ¬ (t : Int) < (s : Int) := by omega
                          have e : Hid (bb = false) := Lib.hid (by rw [← hb]; simp; omega)
                  all_goals
                    clear hb
                    refine wp_region_calm (fun w1 => Own w w1 [slc 3 1 u4 s (nums ((codesF F).take s))]) 31 (by kernel_rfl) (by kernel_rfl) H.drew ?_
                    simp only [List.take_succ_cons, List.take_zero, List.drop_succ_cons, List.drop_zero]
                    repeat
                      first
                      | (refine calm_value (v := ?_) (by decide) rfl (fun σ w1 hS => ?_) ?_
                         rotate_left
                         · obtain ⟨c0, c1⟩ := G.out _ _ hS
                           first | (go_simp; rfl) | rfl
                         simp only [Act.put, List.setIfInBounds_toArray, List.set_cons_zero, List.set_cons_succ])
                      | (refine calm_skip (by decide) rfl ?_
                         simp only [Act.put, List.setIfInBounds_toArray, List.set_cons_zero, List.set_cons_succ])
                    refine calm_nil ?_
                    intro wd HD
                    go_wp2_with fail
                    go_meet
                    exact ⟨by rw [e.out]; try rfl, HD⟩
                case rest =>
                  clear H
                  obtain ⟨rfl, H⟩ := hcut
                  obtain ⟨c0, c1⟩ := G.out _ _ H
                  cases bb with
                  | true =>
                    obtain ⟨k, rfl⟩ : ∃ k : Nat, x = k := ⟨x.toNat, by omega⟩
                    have hd : IntKind.i64.wrap (15 - (k : Int)) = ((15 - k : Nat) : Int) := by rw [IntWalk.i64_in _ ⟨by omega, by omega⟩]; omega
                    obtain ⟨d, hd2⟩ : ∃ d, d = 15 - k := ⟨_, rfl⟩
                    rw [← hd2] at hd
                    have hd15 : min d 64 = d := by omega
                    have HBT2 : Hid ((2 : Int) ^ d = z) := Lib.hid (by
                      have hb := HBB.out
                      have hbt := HBT.out
                      rw [if_pos (by simpa using hb), Int.toNat_natCast, ← hd2] at hbt
                      exact hbt.symm)
                    clear hd2
                    have hsw : wrap64 (q + z) = q + z := IntWalk.wrap64_in _ ⟨by omega, by omega⟩
                    have hpw : wrap64 ((2 : Int) ^ min d 64) = z := by rw [hd15, HBT2.out]; exact IntWalk.wrap64_in _ ⟨by omega, by omega⟩
                    clear hd15 hbb hbb2 hx
                    go_wp2_with fail
                    go_roundw
                    case rel => exact ⟨t + 1, by go_num, by omega, by rw [hbl.out]; exact val_int hsw, H⟩
                    case measure => simp [intOf]; omega
                  | false =>
                    have hz0 : z = 0 := by
                      have hb := HBB.out
                      have hbt := HBT.out
                      rw [if_neg (by simpa using hb)] at hbt
                      exact hbt
                    have hbl2 : Hid (befN F s (t + 1) = q) := Lib.hid (by rw [hbl.out, hz0, Int.add_zero])
                    clear hz0 hbl
                    go_wp2_with fail
                    go_roundw
                    case rel => exact ⟨t + 1, by go_num, by omega, by rw [hbl2.out], H⟩
                    case measure => simp [intOf]; omega
              · obtain rfl : t = n := by omega
                have htI : ¬ (t : Int) < (t : Int) := by omega
                obtain ⟨b1, o1, he, c1⟩ := rd_at HR.out H hlt
                cases he
                rw [HM.out] at c1
                have hbb := befN_bounds (l := F) HF.out s t
                have hd : IntKind.i64.wrap (15 - (m : Int)) = ((15 - m : Nat) : Int) := by rw [IntWalk.i64_in _ ⟨by omega, by omega⟩]; omega
                obtain ⟨q, hq⟩ : ∃ q, Hid (befN F s t = q) := ⟨_, rfl⟩
                rw [hq.out] at hbb HSH ⊢
                obtain ⟨d, hd2⟩ : ∃ d, d = 15 - m := ⟨_, rfl⟩
                rw [← hd2] at hd HSH
                have hd63 : d < 64 := by omega
                have hdI : (d : Int) < 64 := by omega
                clear hd2 hbb hs hm1 hm2
                go_wp2_with (at_builtin; rw [HSH.out]; refine wpList_append_one rfl _ _ rfl Try.underlying22 intInfo rfl (by decide) rfl H (news := [.int .i64 (codeF F s)]) rfl rfl rfl (by simp [Value.oneCell']) (by omega) (by omega) ?_; clear H c1; intro v' w' H; rw [HST.out] at H)
                go_roundw
                case rel => exact ⟨s + 1, by go_num, by omega, H⟩
                case measure => simp [intOf]; omega
        · obtain rfl : s = n := by omega
          have hsI : ¬ (s : Int) < (s : Int) := by omega
          rw [List.take_of_length_le (by rw [codesF_length]; have := hl.out; omega), e2.out] at H
          go_wp2_with fail
          go_ret2
          exact ⟨_, rfl, _, by rw [e1.out]; rfl, H⟩
    · have e1 : Hid (er = 2) := Lib.hid (by rw [← her.out]; unfold cerrF; rw [hZ.out, if_pos rfl, hwt.out, if_neg (show ¬ wt ≤ 2 ^ 15 by omega)])
      obtain ⟨e2, e3⟩ := HNIL.out (by rw [e1.out]; decide)
      subst e3
      have E2 := Lib.hid e2
      have hwI : (32768 : Int) < wt := by omega
      clear e2
      go_wp2_with fail
      refine HW2.out.mono ?_
      rintro e w2 ⟨_, rfl, rfl, H1⟩
      have H := (H.join H1)
      clear H1 HW2
      go_wp2_with fail
      go_ret2
      refine ⟨_, rfl, _, by rw [e1.out]; rfl, ?_⟩
      rw [E2.out]
      exact H.bare.nil 3 1
end Go.Proofs.Ytfeamlbkogigkaa
