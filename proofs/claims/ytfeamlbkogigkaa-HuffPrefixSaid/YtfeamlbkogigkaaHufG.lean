/-
  huff: the walk of Lengths.
-/
import Derived.Test.YtfeamlbkogigkaaHufF
import Derived.Deep.OwnRows
namespace Go.Proofs.Ytfeamlbkogigkaa
open Go.RowKit

/-- Which error Lengths has; its lengths. -/
def badArg (F : List Int) (L : Int) : Bool := decide (L < 1) || decide (15 < L) || decide (320 < F.length) || anyBad F
def errF (F : List Int) (L : Int) : Int := if badArg F L then 1 else if 2 ^ L.toNat < (usedF F).length then 3 else 0
def resF (F : List Int) (L : Int) : List Int := if errF F L = 0 then lengthsF F L.toNat else []

theorem sort_syms {w0 w : World} {ps : List Piece} {N B n : Nat} {l F : List Int} {v sv : Value} (hr : Rd w0 1 v n (nums F)) (hn : n ≤ 1000000) (hok : ∀ x ∈ l, 0 ≤ x ∧ x < F.length) (hN : N = l.length) (hNb : N ≤ 1000000)
    (H : Own w0 w (slc 3 1 sv N (nums l) :: blk B (.cells #[v] 22) :: ps)) :
    Calls Try.prog 32 #[sv, SI.cf B] w (Ret fun _ w' => Own w0 w' (slc 3 1 sv N (nums (sortF (frq F) l)) :: blk B (.cells #[v] 22) :: ps)) := by
  rcases H.slc_cases with ⟨rfl, rfl, hx, H2⟩ | ⟨g, cap, cur, rfl, _⟩
  · refine (sortnil_any _ w).mono ?_
    rintro e w1 ⟨_, rfl, h⟩
    have hl : l = [] := List.eq_nil_of_length_eq_zero hN.symm
    subst hl
    exact ⟨_, rfl, (H2.join h).nil _ _⟩
  · rw [← rows_ie] at H ⊢
    exact sortI_any hr hn hok hN hNb H

set_option maxRecDepth 100000 in
set_option maxHeartbeats 12800000 in
theorem lengths_any {w : World} {v : Value} {n : Nat} {F : List Int} {L : Int} (hr : Rd w 1 v n (nums F)) (hn : n ≤ 1000) :
    Calls Try.prog 11 #[v, .int .i64 L] w (Ret fun r w' => ∃ ov, r = .tuple #[ov, .int .i64 (errF F L)] ∧ Own w w' [slc 3 1 ov (resF F L).length (nums (resF F L))]) := by
  have hFl : Hid (F.length = n) := Lib.hid (by have := hr.len; rw [nums_length] at this; omega)
  obtain ⟨va, vc, rfl, hv1, hv2⟩ := hr.shape
  have HR := Lib.hid hr
  have H := (Own.start w).alloc (.cells #[.slice va n vc] 22)
  obtain ⟨bad, hbad⟩ : ∃ bad, Hid (badArg F L = bad) := ⟨_, rfl⟩
  obtain ⟨er, her⟩ : ∃ er, Hid (errF F L = er) := ⟨_, rfl⟩
  obtain ⟨R, hRes⟩ : ∃ R, Hid (resF F L = R) := ⟨_, rfl⟩
  rw [her.out, hRes.out]
  obtain ⟨RL, hRL⟩ : ∃ RL, Hid (R.length = RL) := ⟨_, rfl⟩
  rw [hRL.out]
  have hC := contains_any (w := w) hr (by omega)
  clear hr
  go_enter Try.func11, Try.ntmps11
  go_upto_region 2 with (fail)
  generalize w.alloc (.cells #[.slice va n vc] 22) = wa at *
  generalize w.heap.size = B at *
  have c0 := H.cells
  have HCON := Lib.hid hC
  clear hC
  go_cut [38] (fun s38 wx => s38 = .bool bad ∧ Own w wx [blk B (.cells #[.slice va n vc] 22)])
  case first =>
    have hbd := hbad.out
    unfold badArg at hbd
    rw [hFl.out] at hbd
    by_cases h1 : L < 1
    · have e : Hid (bad = true) := Lib.hid (by rw [← hbd]; simp [h1])
      clear hbd
      go_wp2_with fail
      go_meet
      exact ⟨by rw [e.out], H⟩
    · by_cases h2 : 15 < L
      · have e : Hid (bad = true) := Lib.hid (by rw [← hbd]; simp [h2])
        clear hbd
        go_wp2_with fail
        go_meet
        exact ⟨by rw [e.out], H⟩
      · by_cases h3 : 320 < n
        · have e : Hid (bad = true) := Lib.hid (by rw [← hbd]; simp [h3])
          have h3I : (320 : Int) < (n : Int) := by omega
          clear hbd
          go_wp2_with fail
          go_meet
          exact ⟨by rw [e.out], H⟩
        · have e : Hid (bad = anyBad F) := Lib.hid (by rw [← hbd]; simp [h1, h2, h3])
          have h3I : ¬ (320 : Int) < (n : Int) := by omega
          have HC2 := Lib.hid (contains_any (HR.out.old H) (by omega))
          clear hbd HCON
          go_wp2_with fail
          refine HC2.out.mono ?_
          rintro e1 w1 ⟨_, rfl, rfl, H1⟩
          have H := H.join H1
          rw [← e.out]
          go_wp2_with fail
          go_meet
          exact ⟨rfl, H⟩
  case rest =>
    clear H c0 HCON
    obtain ⟨rfl, H⟩ := hcut
    cases bad with
    | true =>
      have e1 : Hid (er = 1) := Lib.hid (by rw [← her.out]; unfold errF; rw [hbad.out]; rfl)
      have e2 : Hid (R = []) := Lib.hid (by rw [← hRes.out]; unfold resF; rw [her.out, e1.out]; rfl)
      go_wp2_with fail
      go_ret2
      refine ⟨_, rfl, _, by rw [e1.out]; rfl, ?_⟩
      have e3 := hRL.out
      rw [e2.out] at e3
      subst e3
      rw [e2.out]
      exact (H.nil 3 1).swap.drop
    | false =>
      have hbd := hbad.out
      unfold badArg at hbd
      simp only [Bool.or_eq_false_iff, decide_eq_false_iff_not] at hbd
      obtain ⟨⟨⟨hL1, hL2⟩, hL3⟩, hab⟩ := hbd
      obtain ⟨M, rfl⟩ : ∃ M : Nat, L = M := ⟨L.toNat, by omega⟩
      have hM1 : 1 ≤ M := by omega
      have hM2 : M ≤ 15 := by omega
      have hn3 : n ≤ 320 := by have := hFl.out; omega
      have hFb : Hid (∀ f ∈ F, 0 ≤ f ∧ f ≤ 4294967296) := Lib.hid (fun f hf => by
        unfold anyBad at hab
        rw [List.any_eq_false] at hab
        have := hab f hf
        simp only [badF, decide_eq_true_eq] at this
        omega)
      clear hab hL1 hL2 hL3
      have c0 := H.cells
      have H := H.nil 3 1
      go_wp2_with fail
      clear c0
      go_loopw [7, 41] (fun s7 s41 wx => ∃ k : Nat, s41 = .int .i64 k ∧ k ≤ n ∧ Own w wx [slc 3 1 s7 (usedN F k).length (nums (usedN F k)), blk B (.cells #[.slice va n vc] 22)]) (fun _ s41 _ => n - (intOf s41).toNat)
      case atStart => exact ⟨0, by go_num, by omega, by simpa [usedN, nums] using H⟩
      case round =>
        clear H
        obtain ⟨k, rfl, hk, H⟩ := hrel
        by_cases hlt : k < n
        · obtain ⟨b, o, rfl, c1⟩ := rd_num HR.out H (by have := hFl.out; omega : k < F.length) rfl
          have hu := usedN_length F k
          have hus : usedN F (k + 1) = if 0 < F.getD k 0 then usedN F k ++ [(k : Int)] else usedN F k := rfl
          obtain ⟨x, hx⟩ : ∃ x, Hid (F.getD k 0 = x) := ⟨_, rfl⟩
          rw [hx.out] at c1 hus
          have hkI : (k : Int) < (n : Int) := by omega
          obtain ⟨U, hU⟩ : ∃ U, Hid (usedN F k = U) := ⟨_, rfl⟩
          rw [hU.out] at H hus hu
          by_cases hpos : 0 < x
          · rw [if_pos hpos] at hus
            have HUS := Lib.hid hus
            obtain ⟨q, hq⟩ : ∃ q, Hid (U.length = q) := ⟨_, rfl⟩
            rw [hq.out] at H hu
            clear hus
            go_wp2_with (at_builtin; refine wpList_append_one rfl _ _ rfl Try.underlying22 intInfo rfl (by decide) rfl H (news := [.int .i64 k]) rfl rfl rfl (by simp [Value.oneCell']) (by omega) (by omega) ?_; clear H c1; intro v' w' H)
            go_roundw
            case rel =>
              refine ⟨k + 1, by go_num, by omega, ?_⟩
              rw [HUS.out, List.length_append, hq.out]
              simpa [nums] using H
            case measure => simp [intOf]; omega
          · rw [if_neg hpos] at hus
            have HUS := Lib.hid hus
            clear hus
            go_wp2_with fail
            go_roundw
            case rel => exact ⟨k + 1, by go_num, by omega, by rw [HUS.out]; exact H⟩
            case measure => simp [intOf]; omega
        · obtain rfl : k = n := by omega
          have hkI : ¬ (k : Int) < (k : Int) := by omega
          have hul := usedN_length F k
          have hus : Hid (usedN F k = usedF F) := Lib.hid (by unfold usedF; rw [hFl.out])
          rw [hus.out] at H hul
          obtain ⟨a7, c7, rfl, -⟩ := H.rd.shape
          obtain ⟨N, hN⟩ : ∃ N, Hid ((usedF F).length = N) := ⟨_, rfl⟩
          rw [hN.out] at H hul ⊢
          obtain ⟨p, hp⟩ : ∃ p : Nat, Hid (2 ^ M = p) := ⟨_, rfl⟩
          have hp1 : p ≤ 32768 := by
            rw [← hp.out]
            have : 2 ^ M ≤ 2 ^ 15 := Nat.pow_le_pow_right (by omega) hM2
            omega
          have hpw : wrap64 ((2 : Int) ^ M) = (p : Int) := by
            have e : (2 : Int) ^ M = (p : Int) := by rw [← hp.out]; simp
            rw [e]
            exact IntWalk.wrap64_in _ ⟨by omega, by omega⟩
          have herr : Hid (er = if p < N then 3 else 0) := Lib.hid (by
            rw [← her.out]; unfold errF
            rw [hbad.out, if_neg (by simp), Int.toNat_natCast, hp.out, hN.out])
          by_cases hfull : p < N
          · have e1 : Hid (er = 3) := Lib.hid (by rw [herr.out, if_pos hfull])
            have e2 : Hid (R = []) := Lib.hid (by rw [← hRes.out]; unfold resF; rw [her.out, e1.out]; rfl)
            have hfI : (p : Int) < (N : Int) := by omega
            go_wp2_with fail
            go_ret2
            refine ⟨_, rfl, _, by rw [e1.out]; rfl, ?_⟩
            have e3 := hRL.out
            rw [e2.out] at e3
            subst e3
            rw [e2.out]
            exact (H.bare.nil 3 1)
          · have e1 : Hid (er = 0) := Lib.hid (by rw [herr.out, if_neg hfull])
            have e2 : Hid (lengthsF F M = R) := Lib.hid (by rw [← hRes.out]; unfold resF; rw [her.out, e1.out]; rfl)
            have hfI : ¬ (p : Int) < (N : Int) := by omega
            have hS := sort_syms HR.out (by omega) (fun x hx => by
              obtain ⟨s, rfl, h1, _⟩ := (usedN_mem F _ x).1 hx
              exact ⟨by omega, by omega⟩) hN.out.symm (by omega) H
            have esym : sortF (frq F) (usedF F) = symsF F := rfl
            rw [esym] at hS
            have hsl : Hid ((symsF F).length = N) := Lib.hid (by rw [syms_length]; exact hN.out)
            have HS := Lib.hid hS
            clear hS esym herr
            go_wp2_with fail
            refine HS.out.mono ?_
            rintro e w1 ⟨_, rfl, H1⟩
            clear H HS
            have c0 := (H1.front 1 rfl).cells
            have hmk : ∀ w : World, (Instr.makeSlice 22 (.int .i64 k) (.int .i64 k)).run Try.prog w = .ok (.slice (some ⟨w.heap.size, 0, none⟩) k k) (w.alloc (.cells (madeCells #[.int .i64 0] k) 3)) := run_make_row' _ _ _ 8 Try.underlying22 intInfo rfl .i64 .i64 k (by omega) (by omega)
            go_upto_region 15 with (fail)
            clear c0 hmk
            have H := (H1.alloc (.cells (madeCells #[.int .i64 0] k) 3)).slc_mk (xs := nums (zerosF k)) (n := k) (size := 1) (by simp [nums, zerosF]) (Nat.le_refl _) (by simp [maxLen]; omega) (by simp [size_madeCells]) (by rw [toList_madeCells_one]; simp [nums, zerosF])
            clear H1
            generalize w1.alloc (.cells (madeCells #[.int .i64 0] k) 3) = wb at *
            generalize w1.heap.size = og at *
            have hz : Hid (∀ s, (zerosF k).getD s 0 = 0) := Lib.hid (fun s => by
              unfold zerosF
              rw [List.getD_eq_getElem?_getD, List.getElem?_replicate]
              split <;> rfl)
            have hzl : Hid ((zerosF k).length = k) := Lib.hid (by simp [zerosF])
            have hin : Hid (∀ x ∈ symsF F, ∃ s : Nat, x = s ∧ s < k) := Lib.hid (fun x hx => by
              obtain ⟨s, rfl, h1, _⟩ := (syms_mem F x).1 hx
              exact ⟨s, rfl, by have := hFl.out; omega⟩)
            have hRl : k = RL := by rw [← hRL.out, ← e2.out, lengthsF_length]; exact hFl.out.symm
            subst hRl
            by_cases h2 : N < 2
            · have hN2 : (N : Int) < 2 := by omega
              have eR : Hid (bumpF (zerosF k) ((symsF F).take N) = R) := Lib.hid (by
                rw [List.take_of_length_le (by rw [hsl.out]; exact Nat.le_refl _), ← e2.out]
                unfold lengthsF
                rw [if_pos (by rw [hsl.out]; exact h2), hFl.out])
              go_wp2_with fail
              go_loopw [69] (fun s69 wx => ∃ j : Nat, s69 = .int .i64 j ∧ j ≤ N ∧ Own w wx [slc 3 1 (.slice (some ⟨og, 0, none⟩) k k) k (nums (bumpF (zerosF k) ((symsF F).take j))), slc 3 1 (.slice a7 N c7) N (nums (symsF F)), blk B (.cells #[.slice va k vc] 22)]) (fun s69 _ => N - (intOf s69).toNat)
              case atStart => exact ⟨0, by go_num, by omega, by simpa [bumpF] using H⟩
              case round =>
                clear H
                obtain ⟨j, rfl, hj, H⟩ := hrel
                by_cases hlt : j < N
                · obtain rfl : j = 0 := by omega
                  obtain ⟨x, hx⟩ := get_of_lt (l := symsF F) (k := 0) (by have := hsl.out; omega)
                  obtain ⟨z, rfl, hz2⟩ := hin.out x (List.mem_of_getElem? hx)
                  have hst : (nums (bumpF (zerosF k) ((symsF F).take 0))).set z (.int .i64 1) = nums (bumpF (zerosF k) ((symsF F).take (0 + 1))) := by
                    rw [nums_set, bump_take hx]
                    unfold bump1
                    rw [show (bumpF (zerosF k) ((symsF F).take 0)) = zerosF k from rfl, hz.out]
                    rfl
                  have HST := Lib.hid hst
                  obtain ⟨b7, o7, c7', he, -⟩ := (H.front 1 rfl).rd.some (by rw [nums_length, hsl.out]; omega)
                  cases he
                  have c2 := (H.front 1 rfl).rd.cell (nums_get hx)
                  rw [Nat.add_zero] at c2
                  have hjI : (0 : Int) < (N : Int) := by omega
                  have hzI : (z : Int) < (k : Int) := by omega
                  clear hst hx
                  go_wp2_with (refine wpList_store_slc rfl _ _ rfl rfl H (.int .i64 1) rfl (by kernel_rfl) (by omega) rfl ?_; clear H c2; intro w2 H; rw [HST.out] at H)
                  go_roundw
                  case rel => exact ⟨0 + 1, by go_num, by omega, H⟩
                  case measure => simp [intOf]; omega
                · obtain rfl : j = N := by omega
                  have hjI : ¬ (j : Int) < (j : Int) := by omega
                  rw [eR.out] at H
                  go_wp2_with fail
                  go_ret2
                  refine ⟨_, rfl, _, by rw [e1.out]; rfl, ?_⟩
                  exact ((((H.front 2 rfl).front 2 rfl).drop.drop))
            · have h3 : 2 ≤ N := by omega
              have hN2 : ¬ (N : Int) < 2 := by omega
              obtain ⟨sg, sc, he, -⟩ := (H.front 1 rfl).at (by rw [nums_length, hsl.out]; omega)
              cases he
              go_upto_if 66 with (fail)
              go_cut [] (fun wx => Own w wx [slc 3 1 (.slice (some ⟨og, 0, none⟩) k k) k (nums (zerosF k)), slc 3 1 (.slice (some ⟨sg, 0, none⟩) N c7) N (nums (symsF F)), blk B (.cells #[.slice va k vc] 22)])
              case first =>
                go_wp2_with fail
                go_meet
                exact H
              case rest =>
                clear H
                apply_assumption
                refine len_tail22 (n := k) (F := F) (syms := symsF F) (base := baseF F) (o := zerosF k) (Lib.hid (base_law F)) (Lib.hid rfl) (Lib.hid (by rw [base_length]; exact hsl.out)) h3 (by omega) hM1 hM2 hn3 hzl hz hsl (Lib.hid (syms_nodup F)) hin (Lib.hid (by have := hp.out; omega)) e1.out (Lib.hid ?_) HR (Lib.hid ?_) _ _ _ _ _ _ _ _ _ _ _ _ _ _ _ _ _ _ _ _ _ _ _ _ _ _ _ _ _ _ _ _ _ _ _ _ _ _ _ _ _ _ _ _ _ _ _ _ _ _ _ _ _ _ _ _ _ _ _ _ _ _ _ _ _ _ _ _ _ _ _ _ _ _ _ _ _ _ _ _ _ _ _ _ _ _ _ _ _ _ _ _ _ _ _ _ _ _ _ _ _ _ _ _ _ _ _ _ _ _ _ _ _ _ _ _ _ _ _ _ _ _ _ _ _ _ _ _ _ _ _ _ _ _ _ _ _ _ _ _ _ _ _ _ _ hcut
                · rw [← e2.out]
                  unfold lengthsF
                  rw [if_neg (by rw [hsl.out]; omega), hsl.out, hFl.out]
                · intro c hc
                  obtain ⟨s, hs, rfl⟩ := List.mem_map.1 hc
                  obtain ⟨m, rfl, hm, _⟩ := (syms_mem F s).1 hs
                  show F.getD (Int.toNat m) 0 ≤ _
                  rw [Int.toNat_natCast, List.getD_eq_getElem?_getD, List.getElem?_eq_getElem hm]
                  exact (hFb.out _ (List.getElem_mem _)).2
end Go.Proofs.Ytfeamlbkogigkaa
