/-
  huff: the walks of the document's May, MayCount, Cost.
-/
import Derived.Test.YtfeamlbkogigkaaHufR
namespace Go.Proofs.Ytfeamlbkogigkaa
open Go.RowKit

def okLen (x : Int) : Bool := decide (0 ≤ x) && decide (x ≤ 15)
/-- May lengths be? -/
def mayF (l : List Int) : Bool := decide (l.length ≤ 320) && l.all okLen
theorem mayF_len {l : List Int} (h : mayF l = true) : l.length ≤ 320 ∧ ∀ x ∈ l, 0 ≤ x ∧ x ≤ 15 := by
  unfold mayF at h
  simp only [Bool.and_eq_true, decide_eq_true_eq, List.all_eq_true, okLen] at h
  exact ⟨h.1, fun x hx => h.2 x hx⟩
theorem all_take_succ {p : Int → Bool} {F : List Int} {i : Nat} (h : i < F.length) : (F.take (i + 1)).all p = ((F.take i).all p && p (F.getD i 0)) := by
  rw [List.take_add_one, getD_get h, List.all_append]
  simp

set_option maxHeartbeats 800000 in
theorem rmay_any {w : World} {v : Value} {n : Nat} {F : List Int} (hr : Rd w 1 v n (nums F)) (hn : n ≤ 1000000) :
    Calls Try.prog 16 #[v] w (Ret fun r w' => r = .bool (mayF F) ∧ Own w w' []) := by
  have hl := Lib.hid (rd_len hr)
  obtain ⟨a, c, rfl, hc1, hc2⟩ := hr.shape
  have HR := Lib.hid hr
  have H := Own.start w
  obtain ⟨Z, hZ⟩ : ∃ Z, Hid (mayF F = Z) := ⟨_, rfl⟩
  rw [hZ.out]
  clear hr
  go_enter Try.func16, Try.ntmps16
  go_wp2_with fail
  go_loopw [3] (fun s3 wx => ∃ i : Nat, s3 = .int .i64 i ∧ i ≤ n ∧ i ≤ 321 ∧ Hid ((F.take i).all okLen = true) ∧ Own w wx []) (fun s3 _ => n - (intOf s3).toNat)
  case atStart => exact ⟨0, by go_num, by omega, by omega, Lib.hid rfl, H⟩
  case round =>
    clear H
    obtain ⟨i, rfl, hi, hi2, hal, H⟩ := hrel
    by_cases hlt : i < n
    · have hI : (i : Int) < (n : Int) := by omega
      by_cases h320 : i ≤ 320
      · have h320I : (i : Int) ≤ 320 := by omega
        have hs := all_take_succ (p := okLen) (F := F) (i := i) (by have := hl.out; omega)
        obtain ⟨b, o, rfl, c1⟩ := rd_at HR.out H hlt
        have hbad : okLen (F.getD i 0) = false → Hid (Z = false) := fun h => Lib.hid (by
          rw [← hZ.out]
          unfold mayF
          have : F.all okLen = false := by
            rw [List.all_eq_false]
            refine ⟨F.getD i 0, ?_, by rw [h]; simp⟩
            rw [List.getD_eq_getElem?_getD, List.getElem?_eq_getElem (by have := hl.out; omega)]
            exact List.getElem_mem _
          rw [this, Bool.and_false])
        rw [hal.out, Bool.true_and] at hs
        generalize F.getD i 0 = x at *
        by_cases h0 : x < 0
        · have e := hbad (by simp [okLen]; omega)
          clear hs hbad
          go_wp2
          go_ret
          exact ⟨_, rfl, by rw [e.out]; rfl, H⟩
        · by_cases h15 : 15 < x
          · have e := hbad (by simp [okLen]; omega)
            clear hs hbad
            go_wp2
            go_ret
            exact ⟨_, rfl, by rw [e.out]; rfl, H⟩
          · have e : Hid ((F.take (i + 1)).all okLen = true) := Lib.hid (by rw [hs]; simp [okLen]; omega)
            clear hs hbad
            go_wp2_with fail
            go_roundw
            case rel => exact ⟨i + 1, by go_num, by omega, by omega, e, H⟩
            case measure => simp [intOf]; omega
      · have h320I : ¬ (i : Int) ≤ 320 := by omega
        have e : Hid (Z = false) := Lib.hid (by
          rw [← hZ.out]; unfold mayF
          have := hl.out
          rw [decide_eq_false (by omega), Bool.false_and])
        have hn2 : ¬ (n : Int) ≤ 320 := by omega
        go_wp2
        go_ret
        exact ⟨_, rfl, by rw [e.out]; rfl, H⟩
    · obtain rfl : i = n := by omega
      have hI : ¬ (i : Int) < (i : Int) := by omega
      have e : Hid (Z = decide (i ≤ 320)) := Lib.hid (by
        rw [← hZ.out]; unfold mayF
        have h1 := hal.out
        rw [List.take_of_length_le (by have := hl.out; omega)] at h1
        rw [h1, Bool.and_true, hl.out])
      by_cases h320 : i ≤ 320
      · have h320I : (i : Int) ≤ 320 := by omega
        have e2 : Hid (Z = true) := Lib.hid (by rw [e.out]; simp [h320])
        go_wp2
        go_ret
        exact ⟨_, rfl, by rw [e2.out]; rfl, H⟩
      · have h320I : ¬ (i : Int) ≤ 320 := by omega
        have e2 : Hid (Z = false) := Lib.hid (by rw [e.out]; simp [h320])
        go_wp2
        go_ret
        exact ⟨_, rfl, by rw [e2.out]; rfl, H⟩

theorem anyBad_take {F : List Int} {i : Nat} (h : i < F.length) : anyBad (F.take (i + 1)) = (anyBad (F.take i) || badF (F.getD i 0)) := by
  unfold anyBad
  rw [List.take_add_one, getD_get h, List.any_append]
  simp
set_option maxHeartbeats 1600000 in
theorem rmaycount_any {w : World} {v : Value} {n : Nat} {F : List Int} {L : Int} (hr : Rd w 1 v n (nums F)) (hn : n ≤ 1000000) :
    Calls Try.prog 12 #[v, .int .i64 L] w (Ret fun r w' => r = .int .i64 (errF F L) ∧ Own w w' []) := by
  have hl := Lib.hid (rd_len hr)
  obtain ⟨a, c, rfl, hc1, hc2⟩ := hr.shape
  have HR := Lib.hid hr
  have H := Own.start w
  obtain ⟨er, her⟩ : ∃ er, Hid (errF F L = er) := ⟨_, rfl⟩
  rw [her.out]
  clear hr
  have hbadE : badArg F L = true → er = 1 := fun h => by rw [← her.out]; unfold errF; rw [h]; rfl
  go_enter Try.func12, Try.ntmps12
  by_cases h1 : L < 1
  · have e := Lib.hid (hbadE (by unfold badArg; simp [h1]))
    clear hbadE
    go_wp2
    go_ret
    exact ⟨_, rfl, by rw [e.out]; rfl, H⟩
  by_cases h2 : 15 < L
  · have e := Lib.hid (hbadE (by unfold badArg; simp [h2]))
    clear hbadE
    go_wp2
    go_ret
    exact ⟨_, rfl, by rw [e.out]; rfl, H⟩
  by_cases h3 : 320 < n
  · have e := Lib.hid (hbadE (by unfold badArg; rw [hl.out]; simp [h3]))
    have h3I : (320 : Int) < (n : Int) := by omega
    clear hbadE
    go_wp2
    go_ret
    exact ⟨_, rfl, by rw [e.out]; rfl, H⟩
  have h3I : ¬ (320 : Int) < (n : Int) := by omega
  obtain ⟨M, rfl⟩ : ∃ M : Nat, L = M := ⟨L.toNat, by omega⟩
  have hM1 : 1 ≤ M := by omega
  have hM2 : M ≤ 15 := by omega
  have HB := Lib.hid hbadE
  clear hbadE h1 h2
  go_wp2_with fail
  go_loopw [5] (fun s5 wx => ∃ i : Nat, s5 = .int .i64 i ∧ i ≤ n ∧ Hid (anyBad (F.take i) = false) ∧ Own w wx []) (fun s5 _ => n - (intOf s5).toNat)
  case atStart => exact ⟨0, by go_num, by omega, Lib.hid rfl, H⟩
  case round =>
    clear H
    obtain ⟨i, rfl, hi, hal, H⟩ := hrel
    by_cases hlt : i < n
    · have hI : (i : Int) < (n : Int) := by omega
      have hs := anyBad_take (F := F) (i := i) (by have := hl.out; omega)
      obtain ⟨b, o, rfl, c1⟩ := rd_at HR.out H hlt
      have hbad : badF (F.getD i 0) = true → Hid (er = 1) := fun h => Lib.hid (HB.out (by
        have : anyBad F = true := by
          unfold anyBad
          rw [List.any_eq_true]
          refine ⟨F.getD i 0, ?_, h⟩
          rw [List.getD_eq_getElem?_getD, List.getElem?_eq_getElem (by have := hl.out; omega)]
          exact List.getElem_mem _
        unfold badArg
        rw [this, Bool.or_true]))
      rw [hal.out, Bool.false_or] at hs
      generalize F.getD i 0 = x at *
      by_cases h0 : x < 0
      · have e := hbad (by simp [badF]; omega)
        clear hs hbad
        go_wp2
        go_ret
        exact ⟨_, rfl, by rw [e.out]; rfl, H⟩
      · by_cases h15 : 4294967296 < x
        · have e := hbad (by simp [badF]; omega)
          clear hs hbad
          go_wp2
          go_ret
          exact ⟨_, rfl, by rw [e.out]; rfl, H⟩
        · have e : Hid (anyBad (F.take (i + 1)) = false) := Lib.hid (by rw [hs]; simp [badF]; omega)
          clear hs hbad
          go_wp2_with fail
          go_roundw
          case rel => exact ⟨i + 1, by go_num, by omega, e, H⟩
          case measure => simp [intOf]; omega
    · obtain rfl : i = n := by omega
      have hI : ¬ (i : Int) < (i : Int) := by omega
      have hnb : badArg F M = false := by
        unfold badArg
        have h4 := hal.out
        rw [List.take_of_length_le (by have := hl.out; omega)] at h4
        have := hl.out
        rw [h4]
        simp
        omega
      obtain ⟨p, hp⟩ : ∃ p : Nat, Hid (2 ^ M = p) := ⟨_, rfl⟩
      have hp1 : p ≤ 32768 := by
        rw [← hp.out]
        have : 2 ^ M ≤ 2 ^ 15 := Nat.pow_le_pow_right (by omega) hM2
        omega
      have hpw : wrap64 ((2 : Int) ^ min M 64) = (p : Int) := by
        have e : (2 : Int) ^ M = (p : Int) := by rw [← hp.out]; simp
        rw [Nat.min_eq_left (by omega), e]
        exact IntWalk.wrap64_in _ ⟨by omega, by omega⟩
      have hpw2 : wrap64 ((2 : Int) ^ M) = (p : Int) := by
        have e : (2 : Int) ^ M = (p : Int) := by rw [← hp.out]; simp
        rw [e]
        exact IntWalk.wrap64_in _ ⟨by omega, by omega⟩
      have herr : er = if p < (usedF F).length then 3 else 0 := by
        rw [← her.out]; unfold errF
        rw [hnb, if_neg (by simp), Int.toNat_natCast, hp.out]
      have hul := usedN_length F F.length
      have hu : usedN F F.length = usedF F := rfl
      rw [hu, hl.out] at hul
      have hc : ∀ w1, Own w w1 [] → Calls Try.prog 14 #[.slice a i c] w1 (Ret fun r w' => r = .int .i64 (usedF F).length ∧ Own w1 w' []) := fun w1 h => rused_any (HR.out.old h) (by omega)
      obtain ⟨N, hN⟩ : ∃ N, Hid ((usedF F).length = N) := ⟨_, rfl⟩
      rw [hN.out] at hc herr hul
      have HC := Lib.hid hc
      have HE := Lib.hid herr
      clear hc herr hnb hu
      go_upto_region 8 with (fail)
      refine wp_region_calm (fun w1 => Own w w1 []) 4 (by kernel_rfl) (by kernel_rfl) H.drew ?_
      simp only [List.take_succ_cons, List.take_zero, List.drop_succ_cons, List.drop_zero]
      refine calm_value (v := ?_) (by decide) rfl (fun σ w1 hS => ?_) ?_; rotate_left
      · first | (go_simp; rfl) | rfl
      simp only [Act.put, List.setIfInBounds_toArray, List.set_cons_zero, List.set_cons_succ]
      refine calm_call (v := .int .i64 N) (by decide) rfl (fun w1 => (by go_simp; first | exact ⟨rfl, rfl⟩ | rfl)) (fun σ w1 hS => ?_) ?_
      · refine (HC.out w1 hS).mono ?_
        rintro e w2 ⟨_, rfl, rfl, h2⟩
        exact ⟨rfl, hS.join h2⟩
      simp only [Act.put, List.setIfInBounds_toArray, List.set_cons_zero, List.set_cons_succ]
      repeat
        first
        | (refine calm_value (v := ?_) (by decide) rfl (fun σ w1 hS => ?_) ?_
           rotate_left
           · skip
             first | (go_simp; rfl) | rfl
           simp only [Act.put, List.setIfInBounds_toArray, List.set_cons_zero, List.set_cons_succ])
        | (refine calm_skip (by decide) rfl ?_
           simp only [Act.put, List.setIfInBounds_toArray, List.set_cons_zero, List.set_cons_succ])
      refine calm_nil ?_
      intro wd HD
      clear H
      by_cases hfull : p < N
      · have e : Hid (er = 3) := Lib.hid (by rw [HE.out, if_pos hfull])
        have hfI : (p : Int) < (N : Int) := by omega
        go_wp2
        go_ret
        exact ⟨_, rfl, by rw [e.out]; rfl, HD⟩
      · have e : Hid (er = 0) := Lib.hid (by rw [HE.out, if_neg hfull])
        have hfI : ¬ (p : Int) < (N : Int) := by omega
        go_wp2
        go_ret
        exact ⟨_, rfl, by rw [e.out]; rfl, HD⟩
end Go.Proofs.Ytfeamlbkogigkaa
