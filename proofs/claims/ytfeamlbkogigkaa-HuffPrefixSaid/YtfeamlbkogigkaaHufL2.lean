/-
  huff: the walk of the law on the least.
-/
import Derived.Test.YtfeamlbkogigkaaHufL1
namespace Go.Proofs.Ytfeamlbkogigkaa
open Go.RowKit

/-- A call of awake at the end. -/
theorem mem_getD {F : List Int} {i : Nat} (h : i < F.length) : F.getD i 0 ∈ F := by
  rw [List.getD_eq_getElem?_getD, List.getElem?_eq_getElem h]
  exact List.getElem_mem _

set_option maxRecDepth 100000 in
set_option maxHeartbeats 6400000 in
theorem lawleast_any {w : World} {v u : Value} {n n2 : Nat} {F0 O0 : List Int} {L : Int} (hr0 : Rd w 1 v n (nums F0)) (hu0 : Rd w 1 u n2 (nums O0)) :
    Calls Try.prog 4 #[v, .int .i64 L, u] w (Ret fun r w' => r = .bool true ∧ Own w w' []) := by
  have hs := some_any (w := w) hr0
  have HS2 := Lib.hid (fun w' => some_any (w := w') hu0)
  obtain ⟨F, hF⟩ : ∃ F, Hid (F0.take 330 = F) := ⟨_, rfl⟩
  obtain ⟨m, hm⟩ : ∃ m, Hid (F.length = m) := ⟨_, rfl⟩
  have hm330 : m ≤ 330 := by rw [← hm.out, ← hF.out, List.length_take]; omega
  obtain ⟨O, hO⟩ : ∃ O, Hid (O0.take 330 = O) := ⟨_, rfl⟩
  obtain ⟨m2, hm2⟩ : ∃ m, Hid (O.length = m) := ⟨_, rfl⟩
  have hm3302 : m2 ≤ 330 := by rw [← hm2.out, ← hO.out, List.length_take]; omega
  rw [hF.out, hm.out] at hs
  rw [hO.out, hm2.out] at HS2
  have HS := Lib.hid hs
  obtain ⟨va, vc, rfl, -⟩ := hr0.shape
  obtain ⟨ua, uc, rfl, -⟩ := hu0.shape
  clear hr0 hu0 hs
  go_enter Try.func4, Try.ntmps4
  go_wp2_with fail
  refine HS.out.mono ?_
  rintro e w1 ⟨r, rfl, hr, H⟩
  obtain ⟨a, c, rfl, hc1, hc2⟩ := hr.shape
  have HR := Lib.hid hr
  clear hr HS
  go_wp2_with fail
  refine (HS2.out w1).mono ?_
  rintro e w2 ⟨r, rfl, hu, H1⟩
  obtain ⟨a2, c2, rfl, hd1, hd2⟩ := hu.shape
  have HU := Lib.hid hu
  have H := H.join H1
  clear H1 hu HS2
  obtain ⟨er, her⟩ : ∃ er, Hid (errF F L = er) := ⟨_, rfl⟩
  obtain ⟨R, hRes⟩ : ∃ R, Hid (resF F L = R) := ⟨_, rfl⟩
  go_wp2_with fail
  refine (lengths_any (F := F) (L := L) (HR.out.old H) (by omega)).mono ?_
  rintro e w2 ⟨_, rfl, o, rfl, H1⟩
  rw [her.out]
  rw [hRes.out] at H1
  have H := H.join H1
  clear H1
  obtain ⟨RL, hRL⟩ : ∃ RL, Hid (R.length = RL) := ⟨_, rfl⟩
  rw [hRL.out] at H
  have H : Own w w2 [slc 3 1 o RL (nums R)] := H
  obtain ⟨p1, q1, rfl, hq1, hq2⟩ := H.rd.shape
  have HMAY := Lib.hid (fun w' (h : Own w w' [slc 3 1 (.slice p1 RL q1) RL (nums R)]) => rmay_any (HU.out.old h) (by omega))
  have HWT := Lib.hid (fun w' (h : Own w w' [slc 3 1 (.slice p1 RL q1) RL (nums R)]) (hh : ∀ x ∈ O, 0 ≤ x ∧ x ≤ 15) => rweight_any (HU.out.old h) (by omega) hh)
  obtain ⟨wt, hwt⟩ : ∃ wt, Hid (sumF wtF O = wt) := ⟨_, rfl⟩
  rw [hwt.out] at HWT
  obtain ⟨my, hmy⟩ : ∃ my, Hid (mayF O = my) := ⟨_, rfl⟩
  rw [hmy.out] at HMAY
  go_upto_region 4 with (fail)
  go_cut [38] (fun s38 wx => ∃ bb : Bool, s38 = .bool bb ∧ Hid (bb = false → er = 0 ∧ m2 = m ∧ my = true ∧ wt ≤ 32768) ∧ Own w wx [slc 3 1 (.slice p1 RL q1) RL (nums R)])
  case first =>
    by_cases h0 : er = 0
    · subst h0
      by_cases hmm : m2 = m
      · subst hmm
        go_wp2_with fail
        refine (HMAY.out w2 H).mono ?_
        rintro e w3 ⟨_, rfl, rfl, H1⟩
        have H := H.join H1
        clear H1 HMAY
        cases my with
        | true =>
          have hh := (mayF_len hmy.out).2
          go_wp2_with fail
          refine (HWT.out w3 H hh).mono ?_
          rintro e w4 ⟨_, rfl, rfl, H1⟩
          have H := H.join H1
          clear H1 HWT hh
          by_cases hw : wt ≤ 32768
          · have hwI : ¬ (32768 : Int) < wt := by omega
            go_wp2_with fail
            go_meet
            exact ⟨_, rfl, Lib.hid (by simp), H⟩
          · have hwI : (32768 : Int) < wt := by omega
            go_wp2_with fail
            go_meet
            exact ⟨true, rfl, Lib.hid (fun h => by cases h), H⟩
        | false =>
          go_wp2_with fail
          go_meet
          exact ⟨true, rfl, Lib.hid (fun h => by cases h), H⟩
      · have hmI : ((m2 : Int) == (m : Int)) = false := by simp; omega
        go_wp2_with fail
        go_meet
        exact ⟨true, rfl, Lib.hid (fun h => by cases h), H⟩
    · have hne : (er == 0) = false := by simpa using h0
      go_wp2_with fail
      go_meet
      exact ⟨true, rfl, Lib.hid (fun h => by cases h), H⟩
  case rest =>
    clear H HMAY HWT
    obtain ⟨bb, rfl, hbb, H⟩ := hcut
    cases bb with
    | true =>
      go_wp2_with fail
      refine (awake_any _).mono ?_
      rintro e w6 ⟨_, rfl, rfl, H1⟩
      have H := H.join H1
      go_wp2_with fail
      go_ret
      exact ⟨_, rfl, rfl, H.bare⟩
    | false =>
      obtain ⟨h0, hmm, hmy1, hw⟩ := hbb.out rfl
      subst h0 hmm hmy1
      have hok := len_ok her.out
      rw [hRes.out] at hok
      have hRl : RL = m2 := by rw [← hRL.out, hok.len]; exact hm.out
      subst hRl
      have HOK := Lib.hid hok
      have hO2 := mayF_len hmy.out
      have HO2 := Lib.hid hO2.2
      clear hok hbb hO2
      go_wp2_with fail
      go_loopw [9] (fun s9 wx => ∃ i : Nat, s9 = .int .i64 i ∧ i ≤ RL ∧ Hid (∀ j, j < i → O.getD j 0 ≤ L ∧ (0 < F.getD j 0 → O.getD j 0 ≠ 0)) ∧ Own w wx [slc 3 1 (.slice p1 RL q1) RL (nums R)]) (fun s9 _ => RL - (intOf s9).toNat)
      case atStart => exact ⟨0, by go_num, by omega, Lib.hid (fun j h => by omega), H⟩
      case round =>
        clear H
        obtain ⟨i, rfl, hi, hj, H⟩ := hrel
        by_cases hlt : i < RL
        · have hI : (i : Int) < (RL : Int) := by omega
          obtain ⟨b1, o1, rfl, c0⟩ := rd_at HR.out H hlt
          obtain ⟨b2, o2, rfl, c1⟩ := rd_at HU.out H hlt
          have hj2 : Hid (O.getD i 0 ≤ L → (0 < F.getD i 0 → O.getD i 0 ≠ 0) → ∀ j, j < i + 1 → O.getD j 0 ≤ L ∧ (0 < F.getD j 0 → O.getD j 0 ≠ 0)) := Lib.hid (fun h1 h2 j h => by
            rcases Nat.lt_or_ge j i with h3 | h3
            · exact hj.out j h3
            · have : j = i := by omega
              subst this; exact ⟨h1, h2⟩)
          generalize F.getD i 0 = x at *
          generalize O.getD i 0 = y at *
          by_cases hy : L < y
          · clear hj2
            go_wp2_with fail
            refine (awake_any _).mono ?_
            rintro e w6 ⟨_, rfl, rfl, H1⟩
            have H := H.join H1
            go_wp2_with fail
            go_ret
            exact ⟨_, rfl, rfl, H.bare⟩
          · by_cases hx : 0 < x
            · by_cases hy0 : y = 0
              · subst hy0
                clear hj2
                go_wp2_with fail
                refine (awake_any _).mono ?_
                rintro e w6 ⟨_, rfl, rfl, H1⟩
                have H := H.join H1
                go_wp2_with fail
                go_ret
                exact ⟨_, rfl, rfl, H.bare⟩
              · have hy1 : (y == 0) = false := by simpa using hy0
                have hj3 := Lib.hid (hj2.out (by omega) (fun _ => hy0))
                clear hy0 hj2
                go_wp2_with fail
                go_roundw
                case rel => exact ⟨i + 1, by go_num, by omega, hj3, H⟩
                case measure => simp [intOf]; omega
            · have hj3 := Lib.hid (hj2.out (by omega) (fun h => absurd h hx))
              clear hj2
              go_wp2_with fail
              go_roundw
              case rel => exact ⟨i + 1, by go_num, by omega, hj3, H⟩
              case measure => simp [intOf]; omega
        · obtain rfl : i = RL := by omega
          have hI : ¬ (i : Int) < (i : Int) := by omega
          have hle : costF F R ≤ costF F O := by
            rw [HOK.out.res]
            refine lengthsF_least HOK.out.nn HOK.out.lim' HOK.out.used (by rw [hm2.out, hm.out]) (fun j h => ?_) (fun j h hp => ?_) (by rw [hwt.out]; omega)
            · have h1 := HO2.out _ (mem_getD (F := O) (i := j) (by have := hm.out; have := hm2.out; omega))
              have h2 := (hj.out j (by have := hm.out; omega)).1
              have h3 := HOK.out.lim
              omega
            · exact (hj.out j (by have := hm.out; omega)).2 hp
          go_wp2_with fail
          refine (rcost_any (F := F) (l := R) (HR.out.old H) H.rd (by omega) HOK.out.freq HOK.out.all).mono ?_
          rintro e w6 ⟨_, rfl, rfl, H1⟩
          have H := H.join H1
          clear H1
          go_wp2_with fail
          refine (rcost_any (F := F) (l := O) (HR.out.old H) (HU.out.old H) (by omega) HOK.out.freq HO2.out).mono ?_
          rintro e w7 ⟨_, rfl, rfl, H1⟩
          have H := H.join H1
          clear H1
          generalize costF F R = ca at *
          generalize costF F O = cb at *
          go_wp2_with fail
          refine (awake_any _).mono ?_
          rintro e w8 ⟨_, rfl, rfl, H1⟩
          have H := H.join H1
          go_wp2_with fail
          go_ret
          exact ⟨_, rfl, rfl, H.bare⟩
end Go.Proofs.Ytfeamlbkogigkaa
