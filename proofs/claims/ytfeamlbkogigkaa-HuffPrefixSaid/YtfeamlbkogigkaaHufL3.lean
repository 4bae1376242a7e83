/-
  huff: the walks of the laws on codes.
-/
import Derived.Test.YtfeamlbkogigkaaHufL2
namespace Go.Proofs.Ytfeamlbkogigkaa
open Go.RowKit

set_option maxRecDepth 100000 in
set_option maxHeartbeats 3200000 in
theorem lawcodes_any {w : World} {v : Value} {n : Nat} {F0 : List Int} (hr0 : Rd w 1 v n (nums F0)) :
    Calls Try.prog 5 #[v] w (Ret fun r w' => r = .bool true ∧ Own w w' []) := by
  have hs := some_any (w := w) hr0
  obtain ⟨F, hF⟩ : ∃ F, Hid (F0.take 330 = F) := ⟨_, rfl⟩
  obtain ⟨m, hm⟩ : ∃ m, Hid (F.length = m) := ⟨_, rfl⟩
  have hm330 : m ≤ 330 := by rw [← hm.out, ← hF.out, List.length_take]; omega
  rw [hF.out, hm.out] at hs
  have HS := Lib.hid hs
  obtain ⟨va, vc, rfl, -⟩ := hr0.shape
  clear hr0 hs
  go_enter Try.func5, Try.ntmps5
  go_wp2_with fail
  refine HS.out.mono ?_
  rintro e w1 ⟨r, rfl, hr, H⟩
  obtain ⟨a, c, rfl, hc1, hc2⟩ := hr.shape
  have HR := Lib.hid hr
  clear hr HS
  obtain ⟨er, her⟩ : ∃ er, Hid (cerrF F = er) := ⟨_, rfl⟩
  obtain ⟨R, hRes⟩ : ∃ R, Hid (cresF F = R) := ⟨_, rfl⟩
  go_wp2_with fail
  refine (codes_any (F := F) (HR.out.old H) (by omega)).mono ?_
  rintro e w2 ⟨_, rfl, o, rfl, H1⟩
  rw [her.out]
  rw [hRes.out] at H1
  have H := H.join H1
  clear H1
  obtain ⟨p1, q1, rfl, hq1, hq2⟩ := H.rd.shape
  go_wp2_with fail
  refine (rcodes_any (F := F) (HR.out.old H) (by omega)).mono ?_
  rintro e w3 ⟨_, rfl, o2, rfl, H1⟩
  rw [her.out]
  rw [hRes.out] at H1
  have H := H.join H1
  clear H1
  obtain ⟨p2, q2, rfl, hq3, hq4⟩ := H.rd.shape
  go_wp2_with fail
  refine (same_any R R _ H.swap.rd H.rd).mono ?_
  rintro e w4 ⟨_, rfl, rfl, H1⟩
  have H := H.join H1
  clear H1
  rw [decide_eq_true rfl]
  go_wp2_with fail
  refine (awake_any _).mono ?_
  rintro e w6 ⟨_, rfl, rfl, H1⟩
  have H := H.join H1
  go_wp2_with fail
  go_ret
  exact ⟨_, rfl, rfl, H.bare⟩

/-- What Codes gives, if it gives. -/
structure CodOk (F R : List Int) : Prop where
  few : F.length ≤ 320
  all : ∀ x ∈ F, 0 ≤ x ∧ x ≤ 15
  weight : sumF wtF F ≤ 2 ^ 15
  res : R = codesF F
theorem cod_ok {F : List Int} (h : cerrF F = 0) : CodOk F (cresF F) := by
  have h0 := h
  unfold cerrF at h
  by_cases hm : mayF F = true
  · rw [if_pos hm] at h
    by_cases hw : sumF wtF F ≤ 2 ^ 15
    · have := mayF_len hm
      exact ⟨this.1, this.2, hw, by unfold cresF; rw [if_pos h0]⟩
    · rw [if_neg hw] at h; omega
  · rw [if_neg hm] at h; omega
theorem code_small {F : List Int} (hc : CodOk F (codesF F)) {i : Nat} (hi : i < F.length) : 0 ≤ codeF F i ∧ codeF F i ≤ 32768 := by
  refine ⟨code_nonneg i, ?_⟩
  by_cases h0 : 0 < F.getD i 0
  · have h1 := code_fits hc.all hc.weight hi h0
    have h2 := hc.all _ (mem_getD hi)
    obtain ⟨p, hp, h3, h4⟩ := pow_pos_nat (F.getD i 0).toNat (by omega)
    rw [hp] at h1
    omega
  · unfold codeF; rw [if_neg h0]; omega

set_option maxRecDepth 100000 in
set_option maxHeartbeats 12800000 in
theorem lawprefix_any {w : World} {v : Value} {n : Nat} {F0 : List Int} {I J : Int} (hr0 : Rd w 1 v n (nums F0)) :
    Calls Try.prog 6 #[v, .int .i64 I, .int .i64 J] w (Ret fun r w' => r = .bool true ∧ Own w w' []) := by
  have hs := some_any (w := w) hr0
  obtain ⟨F, hF⟩ : ∃ F, Hid (F0.take 330 = F) := ⟨_, rfl⟩
  obtain ⟨m, hm⟩ : ∃ m, Hid (F.length = m) := ⟨_, rfl⟩
  have hm330 : m ≤ 330 := by rw [← hm.out, ← hF.out, List.length_take]; omega
  rw [hF.out, hm.out] at hs
  have HS := Lib.hid hs
  obtain ⟨va, vc, rfl, -⟩ := hr0.shape
  clear hr0 hs
  go_enter Try.func6, Try.ntmps6
  go_wp2_with fail
  refine HS.out.mono ?_
  rintro e w1 ⟨r, rfl, hr, H⟩
  obtain ⟨a, c, rfl, hc1, hc2⟩ := hr.shape
  have HR := Lib.hid hr
  clear hr HS
  obtain ⟨er, her⟩ : ∃ er, Hid (cerrF F = er) := ⟨_, rfl⟩
  obtain ⟨R, hRes⟩ : ∃ R, Hid (cresF F = R) := ⟨_, rfl⟩
  go_wp2_with fail
  refine (codes_any (F := F) (HR.out.old H) (by omega)).mono ?_
  rintro e w2 ⟨_, rfl, o, rfl, H1⟩
  rw [her.out]
  rw [hRes.out] at H1
  obtain ⟨RL, hRL⟩ : ∃ RL, Hid (R.length = RL) := ⟨_, rfl⟩
  rw [hRL.out] at H1
  have H : Own w w2 [slc 3 1 o RL (nums R)] := H.join H1
  clear H1
  obtain ⟨p1, q1, rfl, hq1, hq2⟩ := H.rd.shape
  go_upto_region 3 with (fail)
  go_cut [37] (fun s37 wx => ∃ bb : Bool, s37 = .bool bb ∧ Hid (bb = false → er = 0 ∧ 0 ≤ I ∧ 0 ≤ J ∧ I < m ∧ J < m) ∧ Own w wx [slc 3 1 (.slice p1 RL q1) RL (nums R)])
  case first =>
    by_cases h0 : er = 0
    · subst h0
      by_cases h1 : I < 0
      · go_wp2_with fail
        go_meet
        exact ⟨true, rfl, Lib.hid (fun h => by cases h), H⟩
      by_cases h2 : J < 0
      · go_wp2_with fail
        go_meet
        exact ⟨true, rfl, Lib.hid (fun h => by cases h), H⟩
      by_cases h3 : (m : Int) ≤ I
      · go_wp2_with fail
        go_meet
        exact ⟨true, rfl, Lib.hid (fun h => by cases h), H⟩
      by_cases h4 : (m : Int) ≤ J
      · go_wp2_with fail
        go_meet
        exact ⟨true, rfl, Lib.hid (fun h => by cases h), H⟩
      go_wp2_with fail
      go_meet
      exact ⟨_, rfl, Lib.hid (by simp; omega), H⟩
    · have hne : (er == 0) = false := by simpa using h0
      go_wp2_with fail
      go_meet
      exact ⟨true, rfl, Lib.hid (fun h => by cases h), H⟩
  case rest =>
    clear H
    obtain ⟨bb, rfl, hbb, H⟩ := hcut
    cases bb with
    | true =>
      go_wp2_with fail
      refine (awake_any _).mono ?_
      rintro e w6 ⟨_, rfl, rfl, H1⟩
      have H := H.join H1
      go_wp2_with fail
      go_ret
      exact ⟨_, rfl, rfl, H.bare⟩
    | false =>
      obtain ⟨h0, hi0, hj0, hi1, hj1⟩ := hbb.out rfl
      subst h0
      have hok := cod_ok her.out
      rw [hRes.out] at hok
      have hR := hok.res
      subst hR
      have hRl : RL = m := by rw [← hRL.out, codesF_length]; exact hm.out
      subst hRl
      obtain ⟨i, rfl⟩ : ∃ i : Nat, I = i := ⟨I.toNat, by omega⟩
      obtain ⟨j, rfl⟩ : ∃ j : Nat, J = j := ⟨J.toNat, by omega⟩
      have hiF : i < F.length := by have := hm.out; omega
      have hjF : j < F.length := by have := hm.out; omega
      have hx := hok.all _ (mem_getD hiF)
      have hy := hok.all _ (mem_getD hjF)
      have hci := code_small hok hiF
      have hcj := code_small hok hjF
      have hzero : F.getD i 0 = 0 → codeF F i = 0 := fun h => by unfold codeF; rw [if_neg (by omega)]
      have hfit := fun h0 => code_fits hok.all hok.weight hiF (h0 : 0 < F.getD i 0)
      have hpre := fun h0 h1 h2 => code_prefix hiF hjF (h0 : 0 < F.getD i 0) (h1 : F.getD i 0 ≤ F.getD j 0) (h2 : i ≠ j)
      obtain ⟨b1, o1, rfl, -⟩ := rd_at HR.out H (i := i) (by omega)
      obtain ⟨b2, o2, rfl, -⟩ := rd_at H.rd (Own.start wc) (i := i) (by omega)
      have g : ∀ (w' : World), Own w w' [slc 3 1 (.slice (some ⟨b2, o2, none⟩) RL q1) RL (nums (codesF F))] → w'.cell? ⟨b1, o1 + i, none⟩ = some (.int .i64 (F.getD i 0)) ∧ w'.cell? ⟨b1, o1 + j, none⟩ = some (.int .i64 (F.getD j 0)) ∧ w'.cell? ⟨b2, o2 + i, none⟩ = some (.int .i64 (codeF F i)) ∧ w'.cell? ⟨b2, o2 + j, none⟩ = some (.int .i64 (codeF F j)) := fun w' h => by
        obtain ⟨_, _, he, h1⟩ := rd_at HR.out h (i := i) (by omega)
        obtain ⟨_, _, he2, h2⟩ := rd_at HR.out h (i := j) (by omega)
        obtain ⟨_, _, he3, h3⟩ := rd_at h.rd (Own.start w') (i := i) (by omega)
        obtain ⟨_, _, he4, h4⟩ := rd_at h.rd (Own.start w') (i := j) (by omega)
        cases he; cases he2; cases he3; cases he4
        rw [codesF_get hiF] at h3
        rw [codesF_get hjF] at h4
        exact ⟨h1, h2, h3, h4⟩
      have G := Lib.hid g
      have HZERO := Lib.hid hzero
      have HFIT := Lib.hid hfit
      have HPRE := Lib.hid hpre
      clear hok hbb hzero hfit hpre g hRL her hRes
      generalize F.getD i 0 = x at *
      generalize F.getD j 0 = y at *
      generalize codeF F i = ci at *
      generalize codeF F j = cj at *
      obtain ⟨x, rfl⟩ : ∃ x' : Nat, x = x' := ⟨x.toNat, by omega⟩
      obtain ⟨y, rfl⟩ : ∃ y' : Nat, y = y' := ⟨y.toNat, by omega⟩
      obtain ⟨c0, c1, c2, c3⟩ := G.out _ H
      have hiI : (i : Int) < (RL : Int) := by omega
      have hjI : (j : Int) < (RL : Int) := by omega
      by_cases hx0 : x = 0
      · subst hx0
        have hci0 : ci = 0 := HZERO.out rfl
        subst hci0
        clear HZERO HFIT HPRE
        go_wp2_with fail
        refine (awake_any _).mono ?_
        rintro e w6 ⟨_, rfl, rfl, H1⟩
        have H := H.join H1
        go_wp2_with fail
        go_ret
        exact ⟨_, rfl, rfl, H.bare⟩
      have hxz : ((x : Int) == 0) = false := by simp; omega
      have hxp : 0 < x := by omega
      by_cases hy0 : y = 0
      · subst hy0
        clear HZERO HFIT HPRE
        go_wp2_with fail
        refine (awake_any _).mono ?_
        rintro e w6 ⟨_, rfl, rfl, H1⟩
        have H := H.join H1
        go_wp2_with fail
        go_ret
        exact ⟨_, rfl, rfl, H.bare⟩
      have hyz : ((y : Int) == 0) = false := by simp; omega
      have hyp : 0 < y := by omega
      have hpi := pow_pos_nat x (by omega)
      obtain ⟨px, hpx, hp1, hp2⟩ := hpi
      have HPX := Lib.hid hpx
      clear hpx
      have hcx : ci < px := by have := HFIT.out (by omega); rw [Int.toNat_natCast, HPX.out] at this; exact this
      have hc0 : ¬ ci < 0 := by omega
      have hc1' : ¬ px ≤ ci := by omega
      have hx64 : (x : Int) < 64 := by omega
      have hpb : -9223372036854775808 ≤ px ∧ px ≤ 9223372036854775807 := ⟨by omega, by omega⟩
      have HGE : Hid (¬ wrap64 ((2 : Int) ^ x) ≤ ci) := Lib.hid (by rw [HPX.out, IntWalk.wrap64_in _ hpb]; exact hc1')
      clear hpb hc1' hcx hp1 hp2
      go_upto_region 9 with (fail)
      clear c0 c1 c2 c3
      refine wp_region_calm (fun w1 => Own w w1 [slc 3 1 (.slice (some ⟨b2, o2, none⟩) RL q1) RL (nums (codesF F))]) 16 (by kernel_rfl) (by kernel_rfl) H.drew ?_
      simp only [List.take_succ_cons, List.take_zero, List.drop_succ_cons, List.drop_zero]
      repeat
        first
        | (refine calm_value (v := ?_) (by decide) rfl (fun σ w1 hS => ?_) ?_
           rotate_left
           · obtain ⟨c0, c1, c2, c3⟩ := G.out _ hS
             first | (go_simp; rfl) | rfl
           simp only [Act.put, List.setIfInBounds_toArray, List.set_cons_zero, List.set_cons_succ])
        | (refine calm_skip (by decide) rfl ?_
           simp only [Act.put, List.setIfInBounds_toArray, List.set_cons_zero, List.set_cons_succ])
      refine calm_nil ?_
      intro wd HD
      clear H
      have hge := HGE.out
      go_upto_region 11 with (fail)
      clear hge HGE
      have hAW := fun w' (h : Own w w' [slc 3 1 (.slice (some ⟨b2, o2, none⟩) RL q1) RL (nums (codesF F))]) => (awake_any w')
      have HAW := Lib.hid hAW
      clear hAW
      by_cases hij : i = j
      case' pos =>
        subst hij
        have hije : ((i : Int) == (i : Int)) = true := by simp
      case' neg =>
        have hije : ((i : Int) == (j : Int)) = false := by simp; omega
        by_cases hyx : y < x
        case' pos =>
          have hyxI : (y : Int) < (x : Int) := by omega
        case' neg =>
          have hyxI : ¬ (y : Int) < (x : Int) := by omega
          have hd : IntKind.i64.wrap ((y : Int) - (x : Int)) = ((y - x : Nat) : Int) := by rw [IntWalk.i64_in _ ⟨by omega, by omega⟩]; omega
          obtain ⟨d, hd2⟩ : ∃ d, d = y - x := ⟨_, rfl⟩
          rw [← hd2] at hd
          have hd64 : (d : Int) < 64 := by omega
          have hd63 : d < 64 := by omega
          have hne : cj / 2 ^ d ≠ ci := by
            have := HPRE.out (by omega) (by omega) hij
            rw [Int.toNat_natCast, Int.toNat_natCast, ← hd2] at this
            exact this
          have hneb : (cj / 2 ^ d != ci) = true := by simpa using hne
          clear hd2 hne
      all_goals
        refine wp_region_calm (fun w1 => Own w w1 [slc 3 1 (.slice (some ⟨b2, o2, none⟩) RL q1) RL (nums (codesF F))]) 38 (by kernel_rfl) (by kernel_rfl) HD.drew ?_
        simp only [List.take_succ_cons, List.take_zero, List.drop_succ_cons, List.drop_zero]
        repeat
          first
          | (refine calm_value (v := ?_) (by decide) rfl (fun σ w1 hS => ?_) ?_
             rotate_left
             · obtain ⟨c0, c1, c2, c3⟩ := G.out _ hS
               first | (go_simp; rfl) | rfl
             simp only [Act.put, List.setIfInBounds_toArray, List.set_cons_zero, List.set_cons_succ])
          | (refine calm_skip (by decide) rfl ?_
             simp only [Act.put, List.setIfInBounds_toArray, List.set_cons_zero, List.set_cons_succ])
        refine calm_call (v := .bool true) (by decide) rfl (fun w1 => (by go_simp; first | exact ⟨rfl, rfl⟩ | rfl)) (fun σ w1 hS => ?_) ?_
        · refine (HAW.out w1 hS).mono ?_
          rintro e w2 ⟨_, rfl, rfl, h2⟩
          exact ⟨rfl, hS.join h2⟩
        simp only [Act.put, List.setIfInBounds_toArray, List.set_cons_zero, List.set_cons_succ]
        repeat
          first
          | (refine calm_value (v := ?_) (by decide) rfl (fun σ w1 hS => ?_) ?_
             rotate_left
             · skip
               first | (go_simp; rfl) | rfl
             simp only [Act.put, List.setIfInBounds_toArray, List.set_cons_zero, List.set_cons_succ])
          | (refine calm_skip (by decide) rfl ?_
             simp only [Act.put, List.setIfInBounds_toArray, List.set_cons_zero, List.set_cons_succ])
        refine calm_nil ?_
        intro wd2 HD2
        go_wp2_with fail
        go_ret
        exact ⟨_, rfl, rfl, HD2.bare⟩
end Go.Proofs.Ytfeamlbkogigkaa
