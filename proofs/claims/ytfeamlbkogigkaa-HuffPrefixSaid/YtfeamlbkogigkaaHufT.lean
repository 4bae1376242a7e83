/-
  huff: the walk of Codes.
-/
import Derived.Test.YtfeamlbkogigkaaHufQ
import Derived.Deep.OwnRows
namespace Go.Proofs.Ytfeamlbkogigkaa
open Go.RowKit

/-- Which error Codes has; its codes. -/
def cerrF (l : List Int) : Int := if mayF l then (if sumF wtF l ≤ 2 ^ 15 then 0 else 2) else 1
def cresF (l : List Int) : List Int := if cerrF l = 0 then codesF l else []

set_option maxRecDepth 100000 in
set_option maxHeartbeats 6400000 in
theorem codes_any {w : World} {v : Value} {n : Nat} {F : List Int} (hr : Rd w 1 v n (nums F)) (hn : n ≤ 1000000) :
    Calls Try.prog 18 #[v] w (Ret fun r w' => ∃ ov, r = .tuple #[ov, .int .i64 (cerrF F)] ∧ Own w w' [slc 3 1 ov (cresF F).length (nums (cresF F))]) := by
  have hl := Lib.hid (rd_len hr)
  obtain ⟨a, c, rfl, hc1, hc2⟩ := hr.shape
  have HR := Lib.hid hr
  obtain ⟨er, her⟩ : ∃ er, Hid (cerrF F = er) := ⟨_, rfl⟩
  obtain ⟨R, hRes⟩ : ∃ R, Hid (cresF F = R) := ⟨_, rfl⟩
  rw [her.out, hRes.out]
  obtain ⟨RL, hRL⟩ : ∃ RL, Hid (R.length = RL) := ⟨_, rfl⟩
  rw [hRL.out]
  obtain ⟨Z, hZ⟩ : ∃ Z, Hid (mayF F = Z) := ⟨_, rfl⟩
  have HC := Lib.hid (counts_any hr hn)
  rw [hZ.out] at HC
  clear hr
  have hnil : er ≠ 0 → R = [] ∧ RL = 0 := fun h => by
    have : R = [] := by rw [← hRes.out]; unfold cresF; rw [her.out, if_neg h]
    exact ⟨this, by rw [← hRL.out, this]; rfl⟩
  have HNIL := Lib.hid hnil
  clear hnil
  have hzl : (zerosF 16).length = 16 := by simp [zerosF]
  go_enter Try.func18, Try.ntmps18
  go_wp2_with fail
  refine HC.out.mono ?_
  rintro e w1 ⟨_, rfl, ⟨cs, hcs, rfl, hcs2⟩, H1⟩
  have HCS := Lib.hid hcs2
  have H := H1.alloc (.cells (nums (zerosF 16)).toArray 69)
  rw [arr_zero] at H
  clear hcs2 HC H1
  go_upto_region 2 with (first
    | (generalize w1.alloc _ = wa at *; rw [← arr_zero] at H; generalize w1.heap.size = cb at *; refine wpList_store16 rfl _ _ rfl rfl hzl hcs H rfl ?_; clear H; intro w2 H))
  cases Z with
  | false =>
    have e1 : Hid (er = 1) := Lib.hid (by rw [← her.out]; unfold cerrF; rw [hZ.out]; rfl)
    obtain ⟨e2, e3⟩ := HNIL.out (by rw [e1.out]; decide)
    subst e3
    have E2 := Lib.hid e2
    clear e2
    go_wp2_with fail
    go_ret2
    refine ⟨_, rfl, _, by rw [e1.out]; rfl, ?_⟩
    rw [E2.out]
    exact H.bare.nil 3 1
  | true =>
    have hm := mayF_len hZ.out
    have hcs2 := HCS.out rfl
    subst hcs2
    have hF := hm.2
    have hn3 : n ≤ 320 := by have := hm.1; have := hl.out; omega
    have hlw := left_law hF
    have hcb : ∀ k, 0 ≤ (countsF F).getD k 0 ∧ (countsF F).getD k 0 ≤ 1000000 := by
      intro k
      rcases Nat.lt_or_ge k 16 with h | h
      · rw [counts_get hF k h]
        unfold cntC
        split
        · omega
        · have := cntL_le F k; have := hl.out; omega
      · rw [List.getD_eq_getElem?_getD, List.getElem?_eq_none (by rw [counts_length]; exact h)]; simp
    have HL := Lib.hid (fun w => left_any (w := w) hcs hcb)
    have HF := Lib.hid hF
    have HCB := Lib.hid hcb
    clear hm hF hcb
    by_cases hw : sumF wtF F ≤ 2 ^ 15
    · rw [if_pos hw] at hlw
      have e1 : Hid (er = 0) := Lib.hid (by rw [← her.out]; unfold cerrF; rw [hZ.out, if_pos rfl, if_pos hw])
      have e2 : Hid (codesF F = R) := Lib.hid (by rw [← hRes.out]; unfold cresF; rw [her.out, e1.out]; rfl)
      have HW := Lib.hid hw
      obtain ⟨lf, hlf⟩ : ∃ lf, Hid (leftF (countsF F) = lf) := ⟨_, rfl⟩
      rw [hlf.out] at hlw HL
      have hlf0 : ¬ lf < 0 := by omega
      have hRl : n = RL := by rw [← hRL.out, ← e2.out, codesF_length]; exact hl.out.symm
      subst hRl
      clear hw hlw
      go_wp2_with (refine wpList_load16 rfl _ rfl rfl hcs H ?_)
      refine (HL.out _).mono ?_
      rintro e w3 ⟨_, rfl, rfl, H1⟩
      have H := H.join H1
      clear H1
      have H := H.alloc (.cells (nums (zerosF 16)).toArray 69)
      rw [arr_zero] at H
      go_upto_region 7 with (fail)
      generalize w3.alloc _ = wa at *
      rw [← arr_zero] at H
      generalize w3.heap.size = nb at *
      go_wp2_with fail
      go_loopw [7] (fun s7 wx => ∃ (k : Nat) (nx : List Int), s7 = .int .i64 k ∧ 1 ≤ k ∧ k ≤ 15 ∧ Hid (nx.length = 16) ∧ Hid (∀ j, j ≤ k → nx.getD j 0 = lowF F j) ∧ Own w wx (blk nb (.cells (nums nx).toArray 69) :: blk cb (.cells (nums (countsF F)).toArray 69) :: [])) (fun s7 _ => 15 - (intOf s7).toNat)
      case atStart => exact ⟨1, zerosF 16, by go_num, by omega, by omega, Lib.hid hzl, Lib.hid (fun j h => by
        rw [zeros_get]
        rcases (by omega : j = 0 ∨ j = 1) with rfl | rfl
        · rw [lowF_zero]
        · rw [lowF_succ, lowF_zero]; rfl), H⟩
      case round =>
        clear H
        obtain ⟨k, nx, rfl, hk1, hk2, hnl, hnx, H⟩ := hrel
        have hcl := counts_length F
        by_cases hlt : k < 15
        · have hkI : (k : Int) < 15 := by omega
          have hk16 : (k : Int) < 16 := by omega
          have hk17 : (k : Int) + 1 < 16 := by omega
          have hkw : IntKind.i64.wrap ((k : Int) + 1) = (k : Int) + 1 := IntWalk.i64_in _ ⟨by omega, by omega⟩
          have hfit : k + 1 < (nums nx).toArray.size := by rw [List.size_toArray, nums_length]; have := hnl.out; omega
          have g0 : ∀ (ps' : List Piece) (w' : World), Own w w' (blk nb (.cells (nums nx).toArray 69) :: blk cb (.cells (nums (countsF F)).toArray 69) :: ps') → w'.cell? ⟨nb, k, none⟩ = some (.int .i64 (lowF F k)) ∧ w'.cell? ⟨cb, k, none⟩ = some (.int .i64 (cntC F k)) := fun ps' w' h => by
            constructor
            · rw [h.cells, arr_get (by have := hnl.out; omega), hnx.out k (Nat.le_refl _)]
            · rw [h.swap.cells, arr_get (by omega), counts_get HF.out k (by omega)]
          have G0 := Lib.hid g0
          have hlow := lowF_succ F k
          have hroom := low_room HF.out HW.out (k + 1) (by omega)
          have hpk : (2 : Int) ^ (k + 1) ≤ 32768 := by
            have : (2 : Nat) ^ (k + 1) ≤ 2 ^ 15 := Nat.pow_le_pow_right (by omega) (by omega)
            have h2 : ((2 ^ (k + 1) : Nat) : Int) ≤ ((2 ^ 15 : Nat) : Int) := Int.ofNat_le.2 this
            simpa using h2
          have b1 := lowF_nonneg F k
          have b2 := cntC_nonneg F k
          have b3 := cntC_nonneg F (k + 1)
          have hst := arr_set nx (k + 1) (lowF F (k + 1))
          have hnx2 : Hid (∀ j, j ≤ k + 1 → (nx.set (k + 1) (lowF F (k + 1))).getD j 0 = lowF F j) := Lib.hid (fun j hj => by
            rw [List.getD_eq_getElem?_getD, List.getElem?_set]
            by_cases h : k + 1 = j
            · subst h; rw [if_pos rfl, if_pos (by have := hnl.out; omega)]; rfl
            · rw [if_neg h, ← List.getD_eq_getElem?_getD]; exact hnx.out j (by omega))
          have hnl2 : Hid ((nx.set (k + 1) (lowF F (k + 1))).length = 16) := Lib.hid (by rw [List.length_set]; exact hnl.out)
          generalize lowF F (k + 1) = y2 at *
          generalize lowF F k = y at *
          generalize cntC F k = z at *
          generalize cntC F (k + 1) = z2 at *
          generalize (2 : Int) ^ (k + 1) = pw at *
          generalize hnx' : nx.set (k + 1) y2 = nx2 at *
          have HST := Lib.hid hst
          clear hst hnx' hnx g0
          have hs1 : IntKind.i64.wrap (y + z) = y + z := IntWalk.i64_in _ ⟨by omega, by omega⟩
          have hs2 : IntKind.i64.wrap ((y + z) * 2) = y2 := by rw [hlow, Int.mul_comm]; exact IntWalk.i64_in _ ⟨by omega, by omega⟩
          have HLOW := Lib.hid hlow
          clear hlow hroom
          go_upto_region 10 with (fail)
          refine wp_region_calm (fun w1 => Own w w1 (blk nb (.cells (nums nx).toArray 69) :: blk cb (.cells (nums (countsF F)).toArray 69) :: [])) 10 (by kernel_rfl) (by kernel_rfl) H.drew ?_
          simp only [List.take_succ_cons, List.take_zero, List.drop_succ_cons, List.drop_zero]
          repeat
            first
            | (refine calm_value (v := ?_) (by decide) rfl (fun σ w1 hS => ?_) ?_
               rotate_left
               · obtain ⟨c0, c1⟩ := G0.out _ _ hS
                 first | (go_simp; rfl) | rfl
               simp only [Act.put, List.setIfInBounds_toArray, List.set_cons_zero, List.set_cons_succ])
            | (refine calm_skip (by decide) rfl ?_
               simp only [Act.put, List.setIfInBounds_toArray, List.set_cons_zero, List.set_cons_succ])
          refine calm_nil ?_
          intro wd HD
          clear H
          go_wp2_with (refine wpList_store_int rfl _ _ rfl rfl HD rfl (by kernel_rfl) hfit ?_; clear HD; intro w4 H; rw [HST.out] at H)
          go_roundw
          case rel => exact ⟨k + 1, nx2, by go_num, by omega, by omega, hnl2, hnx2, H⟩
          case measure => simp [intOf]; omega
        · have hkI : ¬ (k : Int) < 15 := by omega
          have hk15 : Hid (15 ≤ k) := Lib.hid (by omega)
          have hmk : ∀ w : World, (Instr.makeSlice 22 (.int .i64 n) (.int .i64 n)).run Try.prog w = .ok (.slice (some ⟨w.heap.size, 0, none⟩) n n) (w.alloc (.cells (madeCells #[.int .i64 0] n) 3)) := run_make_row' _ _ _ 8 Try.underlying22 intInfo rfl .i64 .i64 n (by omega) (by omega)
          go_upto_region 12 with (fail)
          clear hmk
          have H := (H.alloc (.cells (madeCells #[.int .i64 0] n) 3)).slc_mk (xs := nums (zerosF n)) (n := n) (size := 1) (by simp [nums, zerosF]) (Nat.le_refl _) (by simp [maxLen]; omega) (by simp [size_madeCells]) (by rw [toList_madeCells_one]; simp [nums, zerosF])
          generalize World.alloc _ (.cells (madeCells #[.int .i64 0] n) 3) = wb at *
          generalize wr.heap.size = og at *
          go_wp2_with fail
          go_loopw [43] (fun s43 wx => ∃ (i : Nat) (ny o : List Int), s43 = .int .i64 i ∧ i ≤ n ∧ Hid (ny.length = 16) ∧ Hid (o.length = n) ∧ Hid (∀ j : Nat, 1 ≤ j → j ≤ 15 → ny.getD j 0 = lowF F j + cntL (F.take i) j) ∧ Hid (∀ s, o.getD s 0 = if s < i then codeF F s else 0) ∧ Own w wx (slc 3 1 (.slice (some ⟨og, 0, none⟩) n n) n (nums o) :: blk nb (.cells (nums ny).toArray 69) :: blk cb (.cells (nums (countsF F)).toArray 69) :: [])) (fun s43 _ => n - (intOf s43).toNat)
          case atStart => exact ⟨0, nx, zerosF n, by go_num, by omega, hnl, Lib.hid (by simp [zerosF]), Lib.hid (fun j h1 h2 => by rw [hnx.out j (by have := hk15.out; omega)]; simp [cntL]), Lib.hid (fun s => by rw [zeros_get, if_neg (by omega)]), H⟩
          case round =>
            clear H hnx hnl
            obtain ⟨i, ny, o, rfl, hi, hnl, hol, hny, ho, H⟩ := hrel
            by_cases hlt : i < n
            · have hI : (i : Int) < (n : Int) := by omega
              obtain ⟨b, oo, rfl, c1⟩ := rd_at HR.out H hlt
              have hx := HF.out (F.getD i 0) (by
                rw [List.getD_eq_getElem?_getD, List.getElem?_eq_getElem (by have := hl.out; omega)]
                exact List.getElem_mem _)
              have hil : i < F.length := by have := hl.out; omega
              by_cases hpos : 0 < F.getD i 0
              · have hcode : codeF F i = lowF F (F.getD i 0).toNat + cntL (F.take i) (F.getD i 0).toNat := by unfold codeF; rw [if_pos hpos]
                obtain ⟨m, hm⟩ : ∃ m : Nat, F.getD i 0 = m := ⟨(F.getD i 0).toNat, by omega⟩
                have hm1 : 1 ≤ m := by omega
                have hm2 : m ≤ 15 := by omega
                have hlt2 := code_lt hil hpos
                have hroom := low_room HF.out HW.out m hm2
                have hpk : (2 : Int) ^ m ≤ 32768 := by
                  have : (2 : Nat) ^ m ≤ 2 ^ 15 := Nat.pow_le_pow_right (by omega) (by omega)
                  have h2 : ((2 ^ m : Nat) : Int) ≤ ((2 ^ 15 : Nat) : Int) := Int.ofNat_le.2 this
                  simpa using h2
                have hcn := code_nonneg (l := F) i
                rw [hm] at hcode hpos hx c1 hlt2
                rw [Int.toNat_natCast] at hcode hlt2
                have hnyv : ny.getD m 0 = codeF F i := by rw [hny.out m hm1 hm2, hcode]
                have g0 := H.swap.cells m
                rw [arr_get (by have := hnl.out; omega), hnyv] at g0
                have ho2 : Hid (∀ s, (o.set i (codeF F i)).getD s 0 = if s < i + 1 then codeF F s else 0) := Lib.hid (fun s => by
                  rw [List.getD_eq_getElem?_getD, List.getElem?_set]
                  by_cases h : i = s
                  · subst h; rw [if_pos rfl, if_pos (by have := hol.out; omega), if_pos (by omega)]; rfl
                  · rw [if_neg h, ← List.getD_eq_getElem?_getD, ho.out s]
                    by_cases h2 : s < i
                    · rw [if_pos h2, if_pos (by omega)]
                    · rw [if_neg h2, if_neg (by omega)])
                have hny2 : Hid (∀ j : Nat, 1 ≤ j → j ≤ 15 → (ny.set m (codeF F i + 1)).getD j 0 = lowF F j + cntL (F.take (i + 1)) j) := Lib.hid (fun j h1 h2 => by
                  rw [cntL_take_succ hil, hm, List.getD_eq_getElem?_getD, List.getElem?_set]
                  by_cases h : m = j
                  · subst h; rw [if_pos rfl, if_pos (by have := hnl.out; omega), if_pos rfl, hcode]; simp; omega
                  · rw [if_neg h, if_neg (by omega), ← List.getD_eq_getElem?_getD, hny.out j h1 h2]; simp)
                have hol2 : Hid ((o.set i (codeF F i)).length = n) := Lib.hid (by rw [List.length_set]; exact hol.out)
                have hnl2 : Hid ((ny.set m (codeF F i + 1)).length = 16) := Lib.hid (by rw [List.length_set]; exact hnl.out)
                have hst1 : (nums o).set i (.int .i64 (codeF F i)) = nums (o.set i (codeF F i)) := nums_set _ _ _
                have hst2 := arr_set ny m (codeF F i + 1)
                have hfit : m < (nums ny).toArray.size := by rw [List.size_toArray, nums_length]; have := hnl.out; omega
                have hy1 : codeF F i ≤ 32768 := by
                  have : cntC F m = cntL F m := by unfold cntC; rw [if_neg (by omega)]
                  omega
                have HNY := Lib.hid hnyv
                clear hcode hlt2 hroom hpk hnyv hm
                generalize codeF F i = y at *
                have HST1 := Lib.hid hst1
                have HST2 := Lib.hid hst2
                have hyw : IntKind.i64.wrap (y + 1) = y + 1 := IntWalk.i64_in _ ⟨by omega, by omega⟩
                have hmI : (m : Int) < 16 := by omega
                clear hst1 hst2 hny ho hil
                go_wp2_with (first
                  | (refine wpList_store_slc rfl _ _ rfl rfl H (.int .i64 y) rfl (by kernel_rfl) (by omega) rfl ?_; clear H c1 g0; intro w5 H; rw [HST1.out] at H; have g0 := H.swap.cells m; rw [arr_get (by have := hnl.out; omega), HNY.out] at g0)
                  | (refine wpList_store_int rfl _ _ rfl rfl H.swap rfl (by kernel_rfl) hfit ?_; clear H g0; intro w6 H; rw [HST2.out] at H; replace H := H.swap))
                go_roundw
                case rel => exact ⟨i + 1, _, _, by go_num, by omega, hnl2, hol2, hny2, ho2, H⟩
                case measure => simp [intOf]; omega
              · have hcode : codeF F i = 0 := by unfold codeF; rw [if_neg hpos]
                have ho2 : Hid (∀ s, o.getD s 0 = if s < i + 1 then codeF F s else 0) := Lib.hid (fun s => by
                  rw [ho.out s]
                  by_cases h2 : s < i
                  · rw [if_pos h2, if_pos (by omega)]
                  · rw [if_neg h2]
                    by_cases h3 : s = i
                    · subst h3; rw [if_pos (by omega), hcode]
                    · rw [if_neg (by omega)])
                have hny2 : Hid (∀ j : Nat, 1 ≤ j → j ≤ 15 → ny.getD j 0 = lowF F j + cntL (F.take (i + 1)) j) := Lib.hid (fun j h1 h2 => by
                  rw [cntL_take_succ hil, if_neg (by omega), hny.out j h1 h2]; simp)
                generalize F.getD i 0 = x at *
                clear hcode hny ho hil
                go_wp2_with fail
                go_roundw
                case rel => exact ⟨i + 1, ny, o, by go_num, by omega, hnl, hol, hny2, ho2, H⟩
                case measure => simp [intOf]; omega
            · obtain rfl : i = n := by omega
              have hI : ¬ (i : Int) < (i : Int) := by omega
              have e3 : Hid (o = R) := Lib.hid (by
                rw [← e2.out]
                refine List.ext_getElem (by rw [hol.out, codesF_length, hl.out]) fun s h1 h2 => ?_
                have h3 := ho.out s
                rw [if_pos (by have := hol.out; omega), List.getD_eq_getElem?_getD, List.getElem?_eq_getElem h1] at h3
                have h4 := codesF_get (l := F) (s := s) (by have := hol.out; have := hl.out; omega)
                rw [List.getD_eq_getElem?_getD, List.getElem?_eq_getElem h2] at h4
                exact h3.trans h4.symm)
              clear ho hny
              go_wp2_with fail
              go_ret2
              refine ⟨_, rfl, _, by rw [e1.out]; rfl, ?_⟩
              rw [← e3.out]
              exact ((((H.front 2 rfl).front 2 rfl).drop.drop))
    · rw [if_neg hw] at hlw
      have e1 : Hid (er = 2) := Lib.hid (by rw [← her.out]; unfold cerrF; rw [hZ.out, if_pos rfl, if_neg hw])
      obtain ⟨e2, e3⟩ := HNIL.out (by rw [e1.out]; decide)
      subst e3
      have E2 := Lib.hid e2
      obtain ⟨lf, hlf⟩ : ∃ lf, Hid (leftF (countsF F) = lf) := ⟨_, rfl⟩
      rw [hlf.out] at hlw HL
      have hlf0 : lf < 0 := by omega
      clear e2 hw hlw
      go_wp2_with (refine wpList_load16 rfl _ rfl rfl hcs H ?_)
      refine (HL.out _).mono ?_
      rintro e w3 ⟨_, rfl, rfl, H1⟩
      have H := H.join H1
      clear H1
      go_wp2_with fail
      go_ret2
      refine ⟨_, rfl, _, by rw [e1.out]; rfl, ?_⟩
      rw [E2.out]
      exact H.bare.nil 3 1
end Go.Proofs.Ytfeamlbkogigkaa
