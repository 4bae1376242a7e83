/-
  huff: the walk of the law on lengths.
-/
import Derived.Test.YtfeamlbkogigkaaHufW
namespace Go.Proofs.Ytfeamlbkogigkaa
open Go.RowKit

/-- What Lengths gives, if it gives. -/
structure LenOk (F : List Int) (L : Int) (R : List Int) : Prop where
  lim : 1 ≤ L ∧ L ≤ 15
  few : F.length ≤ 320
  freq : ∀ f ∈ F, 0 ≤ f ∧ f ≤ 4294967296
  used : (symsF F).length ≤ 2 ^ L.toNat
  res : R = lengthsF F L.toNat
theorem len_ok {F : List Int} {L : Int} (h : errF F L = 0) : LenOk F L (resF F L) := by
  have h0 := h
  unfold errF at h
  by_cases hb : badArg F L = true
  · rw [if_pos hb] at h; omega
  · rw [if_neg hb] at h
    by_cases hu : 2 ^ L.toNat < (usedF F).length
    · rw [if_pos hu] at h; omega
    · unfold badArg at hb
      simp only [Bool.or_eq_true, decide_eq_true_eq, not_or] at hb
      obtain ⟨⟨⟨h1, h2⟩, h3⟩, h4⟩ := hb
      refine ⟨by omega, by omega, fun f hf => ?_, by rw [syms_length]; omega, ?_⟩
      · unfold anyBad at h4
        rw [List.any_eq_true] at h4
        have : ¬ badF f = true := fun hb => h4 ⟨f, hf, hb⟩
        simp only [badF, decide_eq_true_eq] at this
        omega
      · unfold resF; rw [if_pos h0]
section
variable {F R : List Int} {L : Int} (h : LenOk F L R)
include h
theorem LenOk.lim' : 1 ≤ L.toNat ∧ L.toNat ≤ 15 := by have := h.lim; omega
theorem LenOk.nn : ∀ f ∈ F, 0 ≤ f := fun f hf => (h.freq f hf).1
theorem LenOk.len : R.length = F.length := by rw [h.res, lengthsF_length]
theorem LenOk.get (j : Nat) (hj : j < F.length) : 0 ≤ R.getD j 0 ∧ R.getD j 0 ≤ L ∧ (R.getD j 0 = 0 ↔ F.getD j 0 = 0) := by
  rw [h.res]
  have := lengthsF_range h.lim' h.used h.nn j hj
  have := h.lim
  omega
theorem LenOk.all : ∀ x ∈ R, 0 ≤ x ∧ x ≤ 15 := fun x hx => by
  obtain ⟨j, hj, rfl⟩ := List.getElem_of_mem hx
  have h1 := h.get j (by rw [← h.len]; exact hj)
  rw [List.getD_eq_getElem?_getD, List.getElem?_eq_getElem hj] at h1
  have := h.lim
  simp only [Option.getD_some] at h1
  omega
theorem LenOk.weight : sumF wtF R = if (usedF F).length < 2 then ((usedF F).length : Int) * 16384 else 32768 := by
  rw [h.res, lengthsF_weight h.lim' h.used, syms_length]
  split <;> omega
end

set_option maxRecDepth 100000 in
set_option maxHeartbeats 6400000 in
theorem lawlengths_any {w : World} {v : Value} {n : Nat} {F0 : List Int} {L : Int} (hr0 : Rd w 1 v n (nums F0)) :
    Calls Try.prog 3 #[v, .int .i64 L] w (Ret fun r w' => r = .bool true ∧ Own w w' []) := by
  have hs := some_any (w := w) hr0
  obtain ⟨F, hF⟩ : ∃ F, Hid (F0.take 330 = F) := ⟨_, rfl⟩
  obtain ⟨m, hm⟩ : ∃ m, Hid (F.length = m) := ⟨_, rfl⟩
  have hm330 : m ≤ 330 := by rw [← hm.out, ← hF.out, List.length_take]; omega
  rw [hF.out, hm.out] at hs
  have HS := Lib.hid hs
  obtain ⟨va, vc, rfl, -⟩ := hr0.shape
  clear hr0 hs
  go_enter Try.func3, Try.ntmps3
  go_wp2_with fail
  refine HS.out.mono ?_
  rintro e w1 ⟨r, rfl, hr, H⟩
  obtain ⟨a, c, rfl, hc1, hc2⟩ := hr.shape
  have HR := Lib.hid hr
  clear hr HS
  obtain ⟨er, her⟩ : ∃ er, Hid (errF F L = er) := ⟨_, rfl⟩
  obtain ⟨R, hRes⟩ : ∃ R, Hid (resF F L = R) := ⟨_, rfl⟩
  go_wp2_with fail
  refine (lengths_any (F := F) (L := L) (HR.out.old H) (by omega)).mono ?_
  rintro e w2 ⟨_, rfl, o, rfl, H1⟩
  rw [her.out]
  rw [hRes.out] at H1
  have H := H.join H1
  clear H1
  obtain ⟨p1, q1, rfl, hq1, hq2⟩ := H.rd.shape
  go_wp2_with fail
  refine (rmaycount_any (F := F) (L := L) (HR.out.old H) (by omega)).mono ?_
  rintro e w3 ⟨_, rfl, rfl, H1⟩
  rw [her.out]
  have H := H.join H1
  clear H1
  by_cases h0 : er = 0
  · subst h0
    have hok := len_ok her.out
    rw [hRes.out] at hok
    have hRl : R.length = m := by rw [hok.len]; exact hm.out
    rw [hRl] at H hq1 ⊢
    have HOK := Lib.hid hok
    clear hok hRl
    go_wp2_with fail
    go_loopw [7] (fun s7 wx => ∃ i : Nat, s7 = .int .i64 i ∧ i ≤ m ∧ Own w wx [slc 3 1 (.slice p1 m q1) m (nums R)]) (fun s7 _ => m - (intOf s7).toNat)
    case atStart => exact ⟨0, by go_num, by omega, H⟩
    case round =>
      clear H
      obtain ⟨i, rfl, hi, H⟩ := hrel
      by_cases hlt : i < m
      · have hI : (i : Int) < (m : Int) := by omega
        have hg := HOK.out.get i (by have := hm.out; omega)
        obtain ⟨b1, o1, rfl, -⟩ := rd_at HR.out H hlt
        obtain ⟨b2, o2, rfl, -⟩ := rd_at H.rd (Own.start wr) hlt
        have g : ∀ (w' : World), Own w w' [slc 3 1 (.slice (some ⟨b2, o2, none⟩) m q1) m (nums R)] → w'.cell? ⟨b1, o1 + i, none⟩ = some (.int .i64 (F.getD i 0)) ∧ w'.cell? ⟨b2, o2 + i, none⟩ = some (.int .i64 (R.getD i 0)) := fun w' h => by
          obtain ⟨_, _, he, h1⟩ := rd_at HR.out h hlt
          obtain ⟨_, _, he2, h2⟩ := rd_at h.rd (Own.start w') hlt
          cases he; cases he2
          exact ⟨h1, h2⟩
        generalize F.getD i 0 = x at *
        generalize R.getD i 0 = y at *
        have G := Lib.hid g
        obtain ⟨hg1, hg2, hg3⟩ := hg
        have hn1 : ¬ y < 0 := by omega
        have hn2 : ¬ L < y := by omega
        by_cases hx : x = 0
        case' pos =>
          have hy : y = 0 := hg3.2 hx
          subst hx hy
        case' neg =>
          have hx1 : (x == 0) = false := by simp; omega
          have hy1 : (y == 0) = false := by simp; omega
        all_goals
          clear g hg3 hg1 hg2
          go_upto_region 12 with (fail)
          refine wp_region_calm (fun w1 => Own w w1 [slc 3 1 (.slice (some ⟨b2, o2, none⟩) m q1) m (nums R)]) 25 (by kernel_rfl) (by kernel_rfl) H.drew ?_
          simp only [List.take_succ_cons, List.take_zero, List.drop_succ_cons, List.drop_zero]
          repeat
            first
            | (refine calm_value (v := ?_) (by decide) rfl (fun σ w1 hS => ?_) ?_
               rotate_left
               · obtain ⟨c0, c1⟩ := G.out _ hS
                 first | (go_simp; rfl) | rfl
               simp only [Act.put, List.setIfInBounds_toArray, List.set_cons_zero, List.set_cons_succ])
            | (refine calm_skip (by decide) rfl ?_
               simp only [Act.put, List.setIfInBounds_toArray, List.set_cons_zero, List.set_cons_succ])
          refine calm_nil ?_
          intro wd HD
          clear H
          go_wp2_with fail
          go_roundw
          case rel => exact ⟨i + 1, by go_num, by omega, HD⟩
          case measure => simp [intOf]; omega
      · obtain rfl : i = m := by omega
        have hI : ¬ (i : Int) < (i : Int) := by omega
        go_wp2_with fail
        refine (rused_any (F := F) (HR.out.old H) (by omega)).mono ?_
        rintro e w4 ⟨_, rfl, rfl, H1⟩
        have H := H.join H1
        clear H1
        have hw := HOK.out.weight
        obtain ⟨N, hN⟩ : ∃ N, Hid ((usedF F).length = N) := ⟨_, rfl⟩
        rw [hN.out] at hw ⊢
        have hNm : N ≤ i := by rw [← hN.out, ← hm.out]; exact usedN_length F _
        go_wp2_with fail
        refine (rweight_any (F := R) H.rd (by omega) HOK.out.all).mono ?_
        rintro e w5 ⟨_, rfl, rfl, H1⟩
        have H := H.join H1
        clear H1
        rw [hw]
        by_cases h2 : N < 2
        · rw [if_pos h2]
          have h2I : (N : Int) < 2 := by omega
          have h1I : ¬ (1 : Int) < (N : Int) := by omega
          have hsw : IntKind.i64.wrap ((N : Int) * 16384) = (N : Int) * 16384 := IntWalk.i64_in _ ⟨by omega, by omega⟩
          go_wp2_with fail
          refine (awake_any _).mono ?_
          rintro e w6 ⟨_, rfl, rfl, H1⟩
          have H := H.join H1
          go_wp2_with fail
          go_ret
          exact ⟨_, rfl, rfl, H.bare⟩
        · rw [if_neg h2]
          have h2I : ¬ (N : Int) < 2 := by omega
          have h1I : (1 : Int) < (N : Int) := by omega
          go_wp2_with fail
          refine (awake_any _).mono ?_
          rintro e w6 ⟨_, rfl, rfl, H1⟩
          have H := H.join H1
          go_wp2_with fail
          go_ret
          exact ⟨_, rfl, rfl, H.bare⟩
  · have hR0 : R = [] := by rw [← hRes.out]; unfold resF; rw [her.out, if_neg h0]
    subst hR0
    have hne : (er == 0) = false := by simpa using h0
    clear h0
    go_wp2_with fail
    refine (awake_any _).mono ?_
    rintro e w6 ⟨_, rfl, rfl, H1⟩
    have H := H.join H1
    go_wp2_with fail
    go_ret
    exact ⟨_, rfl, rfl, H.bare⟩
end Go.Proofs.Ytfeamlbkogigkaa
