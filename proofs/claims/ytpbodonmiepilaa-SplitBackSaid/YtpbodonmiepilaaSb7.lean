/-
  Texts of this claim, one behind the other: flate; Bits; Bits; flate; flate; inflate; inflate; split; Bits; split; split; split; Two slices of ints, held against one another; split; split; As XCalm; split.
-/
import Derived.Test.YtpbodonmiepilaaSb6
import Derived.Deep.OwnRows
import Derived.Test.YtpbodonmiepilaaRows
import Derived.WalkSpells
import Derived.WalkLawsBesides
import Derived.BigQuiet
import Derived.Deep.DeepCutAuto
import Derived.Deep.CutBlock
import Derived.Deep.LoopGhost
import Derived.Deep.QuietTactic
set_option linter.unusedVariables false
/- flate: the walk of rich. -/
namespace Go.Proofs.Ytpbodonmiepilaa
open Go.RowKit

set_option maxRecDepth 100000 in
set_option maxHeartbeats 25600000 in
theorem rich_any {w0 w : World} {ps : List Piece} {g : Nat} {bs : List Bool} {tv : Value} {l : List Tok} (last : Bool) (ht : Reads w0 ps 3 tv l.length (rows tcell l)) (hs : ∀ t ∈ l, TokOk t) (hln : l.length ≤ 1000000) (H : Own w0 w (Wtr g bs :: ps)) (hl : bs.length + 48 * l.length ≤ 35184372000000) :
    Calls Try.prog 38 #[.pointer (some ⟨g, 0, none⟩), tv, .bool last] w (Ret fun _ w' => Own w0 w' (Wtr g (bs ++ blockB l 2 last) :: ps)) := by
  obtain ⟨ta, tc, rfl, ht1, ht2⟩ := (ht w H.drop).shape
  obtain ⟨L, hL⟩ : ∃ L, Hid (richL l = L) := ⟨_, Lib.hid rfl⟩
  obtain ⟨D, hD⟩ : ∃ D, Hid (richD l = D) := ⟨_, Lib.hid rfl⟩
  obtain ⟨RS, hRS⟩ : ∃ RS, Hid (richR l = RS) := ⟨_, Lib.hid rfl⟩
  obtain ⟨RL, hRL⟩ : ∃ RL, Hid (runL RS = RL) := ⟨_, Lib.hid rfl⟩
  obtain ⟨SO, hSO⟩ : ∃ SO, Hid (sortedF RL = SO) := ⟨_, Lib.hid rfl⟩
  have mL := richL_made hs hln
  have mD := richD_made hs hln
  have okR := richR_ok hs hln
  have lenR := richR_len hs hln
  have oks : ∀ t ∈ l, SymOk (richL l) (richD l) t := fun t h => rich_sym hs hln h
  have oL := lit_ok hs hln
  have oD := dist_ok hs hln
  have hB : Hid (bs ++ blockB l 2 last = bs ++ headB last 2 ++ (sizesB L.length D.length SO.length ++ (lensB SO ++ (runsB RL RS ++ bodyB L D l)))) := Lib.hid (by
    unfold blockB richB
    rw [if_neg (by omega), hRS.out, hRL.out, hSO.out, hL.out, hD.out, List.append_assoc])
  rw [hB.out]
  rw [hRS.out] at okR lenR
  have mR := runL_made okR (by omega)
  have m7 := sorted_7 okR (by omega)
  have mS := sorted_len RL
  have oR := run_ok okR (by omega)
  rw [hL.out] at mL oks
  rw [hD.out] at mD oks
  rw [hRL.out] at mR m7
  rw [hSO.out] at m7 mS
  obtain ⟨N, hN⟩ : ∃ N, Hid (l.length = N) := ⟨_, Lib.hid rfl⟩
  have HS := Lib.hid hs
  have HT := Lib.hid ht
  have ML := Lib.hid mL
  have MD := Lib.hid mD
  have MR := Lib.hid mR
  have M7 := Lib.hid m7
  have OKR := Lib.hid okR
  have OKS := Lib.hid oks
  have OL := Lib.hid oL
  have OD := Lib.hid oD
  have OR := Lib.hid oR
  obtain ⟨hS1, hS2⟩ := mS
  have k0 := fun w1 h => counted2_any (ht w1 h) hs hln
  rw [hN.out] at HT ht1 hl hln k0 ⊢
  have K0 := Lib.hid k0
  clear hs ht mL mD okR oks oL oD mR m7 oR k0
  go_enter Try.func38, Try.ntmps38
  go_wp2_with fail
  refine (K0.out _ H.drop).mono ?_
  rintro e w1 ⟨_, rfl, v1, u1, rfl, J⟩
  replace H := H.join J
  clear J
  obtain ⟨a1, c1, rfl, -⟩ := H.rd.shape
  obtain ⟨a2, c2, rfl, -⟩ := (H.front 1 rfl).rd.shape
  have kl := lengths_any (L := 15) H.rd (by omega)
  have hel : errF (litFq l) 15 = 0 := errF_ok (by omega) (by rw [litFq_len]; omega) OL.out.freq (by rw [litFq_len]; decide)
  have hed : errF (distFq l) 15 = 0 := errF_ok (by omega) (by rw [distFq_len]; omega) OD.out.freq (by rw [distFq_len]; decide)
  rw [hel] at kl
  have KL := Lib.hid kl
  clear kl hel
  go_wp2_with fail
  refine KL.out.mono ?_
  rintro e w2 ⟨_, rfl, v3, rfl, J⟩
  replace H := H.join J
  clear J KL
  have kd := lengths_any (L := 15) (H.front 2 rfl).rd (by omega)
  rw [hed] at kd
  have KD := Lib.hid kd
  clear kd hed
  rw [OL.out.len, litFq_len] at H
  obtain ⟨g3, c3, rfl, -⟩ := H.at (by rw [nums_length, OL.out.len, litFq_len]; omega)
  go_wp2_with fail
  refine KD.out.mono ?_
  rintro e w3 ⟨_, rfl, v4, rfl, J⟩
  replace H := H.join J
  clear J KD
  rw [OD.out.len, distFq_len] at H
  obtain ⟨g4, c4, rfl, -⟩ := H.at (by rw [nums_length, OD.out.len, distFq_len]; omega)
  have H : Own w0 w3 (slc 3 1 (.slice (some ⟨g3, 0, none⟩) 286 c3) 286 (nums (resF (litFq l) 15)) :: slc 3 1 (.slice (some ⟨g4, 0, none⟩) 30 c4) 30 (nums (resF (distFq l) 15)) :: Wtr g bs :: ps) := ((((H.front 1 rfl).front 3 rfl).front 3 rfl).drop.drop)
  have kt := fun w1 (h : Own w0 w1 (slc 3 1 (.slice (some ⟨g3, 0, none⟩) 286 c3) 286 (nums (resF (litFq l) 15)) :: slc 3 1 (.slice (some ⟨g4, 0, none⟩) 30 c4) 30 (nums (resF (distFq l) 15)) :: Wtr g bs :: ps)) => trim_own 257 h (by rw [OL.out.len, litFq_len]) (by omega) (by omega)
  have kt2 := fun w1 (qs : List Piece) (h : Own w0 w1 (slc 3 1 (.slice (some ⟨g4, 0, none⟩) 30 c4) 30 (nums (resF (distFq l) 15)) :: qs)) => trim_own 1 h (by rw [OD.out.len, distFq_len]) (by omega) (by omega)
  rw [show trimF (resF (litFq l) 15) 257 = L from hL.out] at kt
  have hD2 : trimF (resF (distFq l) 15) 1 = D := hD.out
  simp only [hD2] at kt2
  have KT := Lib.hid kt
  have KT2 := Lib.hid kt2
  clear kt kt2 hD2
  go_wp2_with fail
  refine (KT.out _ H).mono ?_
  rintro e w4 ⟨_, rfl, rfl, H4⟩
  clear H
  go_wp2_with fail
  refine (KT2.out _ _ H4.swap).mono ?_
  rintro e w5 ⟨_, rfl, rfl, H⟩
  clear H4 KT KT2
  obtain ⟨nL, hnL⟩ : ∃ n, Hid (L.length = n) := ⟨_, Lib.hid rfl⟩
  obtain ⟨nD, hnD⟩ : ∃ n, Hid (D.length = n) := ⟨_, Lib.hid rfl⟩
  have hnL1 := ML.out.lo
  have hnL2 := ML.out.hi
  have hnD1 := MD.out.lo
  have hnD2 := MD.out.hi
  rw [hnL.out] at H hnL1 hnL2 ⊢
  rw [hnD.out] at H hnD1 hnD2 ⊢
  go_wp2_with fail
  have H5 := H.alloc (.cells #[.slice (some ⟨g3, 0, none⟩) nL c3, .slice (some ⟨g4, 0, none⟩) nD c4] 22)
  have hrow : Rd (w5.alloc (.cells #[.slice (some ⟨g3, 0, none⟩) nL c3, .slice (some ⟨g4, 0, none⟩) nD c4] 22)) 1 (.slice (some ⟨w5.heap.size, 0, none⟩) 2 2) 2 [.slice (some ⟨g3, 0, none⟩) nL c3, .slice (some ⟨g4, 0, none⟩) nD c4] := by
    refine ⟨rfl, _, _, rfl, Nat.le_refl _, by decide, by simp, fun ad had j u hu => ?_⟩
    obtain rfl := Option.some.inj had
    rw [Addr.add_lit, Nat.zero_add, H5.cell]
    simpa using hu
  have hcc := concat_any [L, D] [.slice (some ⟨g3, 0, none⟩) nL c3, .slice (some ⟨g4, 0, none⟩) nD c4] hrow rfl rfl (by omega) (fun k u X hu hX => by
    match k with
    | 0 => cases hu; cases hX; rw [hnL.out]; exact (H5.front 2 rfl).rd
    | 1 => cases hu; cases hX; rw [hnD.out]; exact (H5.front 1 rfl).rd
    | k + 2 => cases hu) (by simp [hnL.out, hnD.out]; omega)
  have hfl : [L, D].flatten = L ++ D := by simp
  have hfll : (L ++ D).length = nL + nD := by rw [List.length_append, hnL.out, hnD.out]
  rw [hfl, hfll] at hcc
  have HCC := Lib.hid hcc
  have H6 : Own w0 (w5.alloc (.cells #[.slice (some ⟨g3, 0, none⟩) nL c3, .slice (some ⟨g4, 0, none⟩) nD c4] 22)) (slc 3 1 (.slice (some ⟨g3, 0, none⟩) nL c3) nL (nums L) :: slc 3 1 (.slice (some ⟨g4, 0, none⟩) nD c4) nD (nums D) :: Wtr g bs :: ps) := (H5.drop).swap
  clear hcc hrow H5 H hfl hfll
  generalize w5.alloc _ = w6 at *
  generalize w5.heap.size = gr at *
  refine HCC.out.mono ?_
  rintro e w7 ⟨v7, rfl, J⟩
  have H := H6.join J
  clear J HCC H6
  have hrn := runs_any H.rd (by omega)
  rw [show runsF (L ++ D) = RS by rw [← hRS.out, ← hL.out, ← hD.out]; rfl] at hrn
  have HRN := Lib.hid hrn
  clear hrn
  obtain ⟨a7, c7, rfl, -⟩ := H.rd.shape
  obtain ⟨nR, hnR⟩ : ∃ n, Hid (RS.length = n) := ⟨_, Lib.hid rfl⟩
  rw [hnR.out] at HRN lenR
  go_wp2_with fail
  refine HRN.out.mono ?_
  rintro e w8 ⟨v8, rfl, J⟩
  have H8 := H.join J
  clear J HRN H
  obtain ⟨a8, c8, rfl, -⟩ := H8.rd.shape
  have H : Own w0 w8 (slc 100 3 (.slice a8 nR c8) nR (rows rcell RS) :: slc 3 1 (.slice (some ⟨g3, 0, none⟩) nL c3) nL (nums L) :: slc 3 1 (.slice (some ⟨g4, 0, none⟩) nD c4) nD (nums D) :: Wtr g bs :: ps) := ((H8.front 1 rfl).drop)
  clear H8
  have hmk : ∀ w : World, (Instr.makeSlice 22 (.int .i64 19) (.int .i64 19)).run Try.prog w = .ok (.slice (some ⟨w.heap.size, 0, none⟩) 19 19) (w.alloc (.cells (madeCells #[.int .i64 0] 19) 3)) := run_make_row' _ _ _ 8 Try.underlying22 intInfo rfl .i64 .i64 19 (by omega) (by omega)
  go_upto_region 6 with (fail)
  have h9 := (H.alloc (.cells (madeCells #[.int .i64 0] 19) 3)).slc_mk (xs := nums (runFq (RS.take 0))) (n := 19) (size := 1) (by rw [nums_length, runFq_len]) (Nat.le_refl _) (by simp [maxLen]) (by simp [size_madeCells]) (by rw [toList_madeCells_one]; rfl)
  clear H hmk
  generalize w8.alloc _ = w9 at *
  generalize w8.heap.size = gf at *
  have H := h9
  clear h9
  go_wp2_with fail
  go_loopw [53] (fun s53 wx => ∃ k : Nat, s53 = .int .i64 k ∧ k ≤ nR ∧ Own w0 wx (slc 3 1 (.slice (some ⟨gf, 0, none⟩) 19 19) 19 (nums (runFq (RS.take k))) :: slc 100 3 (.slice a8 nR c8) nR (rows rcell RS) :: slc 3 1 (.slice (some ⟨g3, 0, none⟩) nL c3) nL (nums L) :: slc 3 1 (.slice (some ⟨g4, 0, none⟩) nD c4) nD (nums D) :: Wtr g bs :: ps)) (fun s53 _ => nR - (intOf s53).toNat)
  case atStart => exact ⟨0, by go_num, by omega, H⟩
  case round =>
    clear H
    obtain ⟨k, rfl, hk, H⟩ := hrel
    by_cases hlt : k < nR
    · have hI : (k : Int) < (nR : Int) := by omega
      obtain ⟨t, htk⟩ := get_of_lt (l := RS) (k := k) (by rw [hnR.out]; exact hlt)
      have hok := OKR.out t (List.mem_of_getElem? htk)
      have hls := made_freq RS k t htk
      obtain ⟨b, o, _, he2, -⟩ := (H.front 1 rfl).rd.some (by rw [rows_length rcell rcell_length, hnR.out]; omega)
      cases he2
      obtain ⟨c0, cc1, cc2⟩ := run_cells (H.front 1 rfl).rd htk
      have hkl : Hid (∀ j, 0 ≤ (runFq (RS.take k)).getD j 0 ∧ (runFq (RS.take k)).getD j 0 ≤ 100000) := Lib.hid (fun j => by
        rw [runFq_get (fun r h => OKR.out r (List.mem_of_mem_take h))]
        have := List.countP_le_length (p := fun x : Int => decide (x = (j : Int))) (l := (RS.take k).map Run.sym)
        rw [List.length_map, List.length_take] at this
        omega)
      have hfl := runFq_len (RS.take k)
      obtain ⟨hsy, -, -⟩ := hok
      obtain ⟨x, y, z⟩ := t
      simp only at c0 cc1 cc2 hsy hls
      obtain ⟨s, rfl⟩ : ∃ s : Nat, x = s := ⟨x.toNat, by omega⟩
      have hst := nums_bump (runFq (RS.take k)) s
      rw [← hls] at hst
      have cf := H.getc (nums_get (getD_get (F := runFq (RS.take k)) (i := s) (by omega)))
      have hb := hkl.out s
      obtain ⟨v, hv⟩ : ∃ v, (runFq (RS.take k)).getD s 0 = v := ⟨_, rfl⟩
      rw [hv] at hb cf hst
      have hw : IntKind.i64.wrap (v + 1) = v + 1 := IntWalk.i64_in _ ⟨by omega, by omega⟩
      have hsI : (s : Int) < 19 := by omega
      have HST := Lib.hid hst
      have hs19 : s < 19 := by omega
      have CF := Lib.hid (show (nums (runFq (RS.take k)))[s]? = some (.int .i64 v) by rw [← hv]; exact nums_get (getD_get (by omega)))
      clear htk hls hkl hfl hv hst cf
      go_upto_region 9 with (refine wpList_store_agg (vs := [.int .i64 s, .int .i64 y, .int .i64 z]) rfl _ _ rfl rfl (H.alloc _) rfl (by kernel_rfl) (by simp) (by simp; exact ⟨rfl, rfl, rfl⟩) rfl ?_; clear c0 cc1 cc2; intro w10 H10)
      clear H
      generalize wr.heap.size = tb at *
      have c0 := H10.cells
      have cf := (H10.front 1 rfl).getc CF.out
      go_wp2_with (refine wpList_store_slc rfl _ _ rfl rfl (H10.front 1 rfl) (.int .i64 (v + 1)) rfl (by kernel_rfl) hs19 rfl ?_; clear H10 c0 cf; intro w11 H; rw [HST.out] at H)
      go_roundw
      case rel => exact ⟨k + 1, by go_num, by omega, H.swap.drop⟩
      case measure => simp [intOf]; omega
    · obtain rfl : k = nR := by omega
      have hI : ¬ (k : Int) < (k : Int) := by omega
      have htk : RS.take k = RS := List.take_of_length_le (by rw [hnR.out]; exact Nat.le_refl _)
      rw [htk] at H
      have kl := lengths_any (L := 7) H.rd (by omega)
      have hel : errF (runFq RS) 7 = 0 := errF_ok (by omega) (by rw [runFq_len]; omega) OR.out.freq (by rw [runFq_len]; decide)
      have hrl : resF (runFq RS) 7 = RL := hRL.out
      have hrll : RL.length = 19 := by have := MR.out.lo; have := MR.out.hi; omega
      rw [hel, hrl, hrll] at kl
      have KL := Lib.hid kl
      have HRLL := Lib.hid hrll
      clear kl hel hrl htk hrll
      go_wp2_with fail
      refine KL.out.mono ?_
      rintro e w12 ⟨_, rfl, v5, rfl, J⟩
      replace H := H.join J
      clear J KL
      obtain ⟨g5, c5, rfl, -⟩ := H.at (by rw [nums_length, HRLL.out]; omega)
      have H : Own w0 w12 (slc 3 1 (.slice (some ⟨g5, 0, none⟩) 19 c5) 19 (nums RL) :: slc 100 3 (.slice a8 k c8) k (rows rcell RS) :: slc 3 1 (.slice (some ⟨g3, 0, none⟩) nL c3) nL (nums L) :: slc 3 1 (.slice (some ⟨g4, 0, none⟩) nD c4) nD (nums D) :: Wtr g bs :: ps) := ((H.front 1 rfl).drop)
      go_wp2_with fail
      refine (order_any _).mono ?_
      rintro e w13 ⟨_, rfl, rfl, J⟩
      have H : Own w0 w13 (slc 3 1 (.slice (some ⟨g5, 0, none⟩) 19 c5) 19 (nums RL) :: slc 100 3 (.slice a8 k c8) k (rows rcell RS) :: slc 3 1 (.slice (some ⟨g3, 0, none⟩) nL c3) nL (nums L) :: slc 3 1 (.slice (some ⟨g4, 0, none⟩) nD c4) nD (nums D) :: Wtr g bs :: ps) := H.join J
      clear J
      have hord : Hid (∀ j, j < 19 → (nums (ordF.map Int.ofNat)).toArray[j]? = some (.int .i64 ((ordF.getD j 0 : Nat) : Int)) ∧ ordF.getD j 0 < 19) := Lib.hid (fun j hj => by
        have := (show ∀ j : Fin 19, ordF.getD j.1 0 < 19 ∧ (ordF.map Int.ofNat)[j.1]? = some ((ordF.getD j.1 0 : Nat) : Int) by decide) ⟨j, hj⟩
        refine ⟨?_, this.1⟩
        rw [List.getElem?_toArray]
        exact nums_get this.2)
      have hordl : Hid ((nums (ordF.map Int.ofNat)).toArray.size = 19) := Lib.hid rfl
      generalize (nums (ordF.map Int.ofNat)).toArray = OA at *
      replace H := H.nil 3 1
      go_wp2_with fail
      obtain ⟨MO, hMO0⟩ : ∃ MO, Hid ((ordF.map fun s => RL.getD s 0) = MO) := ⟨_, Lib.hid rfl⟩
      have hMO : Hid (MO.length = 19) := Lib.hid (by rw [← hMO0.out, List.length_map]; rfl)
      have hMg : Hid (∀ j, j < 19 → MO.getD j 0 = RL.getD (ordF.getD j 0) 0) := Lib.hid (fun j hj => by
        rw [← hMO0.out, List.getD_eq_getElem?_getD, List.getElem?_map, List.getD_eq_getElem?_getD (l := ordF)]
        rw [List.getElem?_eq_getElem (show j < ordF.length from hj)]
        rfl)
      have hSO2 : Hid (trimF MO 4 = SO) := Lib.hid (by rw [← hMO0.out]; exact hSO.out)
      go_loopw [18, 71] (fun s18 s71 wx => ∃ i : Nat, s71 = .int .i64 i ∧ i ≤ 19 ∧ Own w0 wx (slc 3 1 s18 i (nums (MO.take i)) :: slc 3 1 (.slice (some ⟨g5, 0, none⟩) 19 c5) 19 (nums RL) :: slc 100 3 (.slice a8 k c8) k (rows rcell RS) :: slc 3 1 (.slice (some ⟨g3, 0, none⟩) nL c3) nL (nums L) :: slc 3 1 (.slice (some ⟨g4, 0, none⟩) nD c4) nD (nums D) :: Wtr g bs :: ps)) (fun _ s71 _ => 19 - (intOf s71).toNat)
      case atStart => exact ⟨0, by go_num, by omega, H⟩
      case round =>
        clear H
        obtain ⟨i, rfl, hi, H⟩ := hrel
        obtain ⟨a9, c9, rfl, -⟩ := H.rd.shape
        by_cases hi19 : i < 19
        · have hiI : (i : Int) < 19 := by omega
          obtain ⟨ho1, ho2⟩ := hord.out i hi19
          have hmg := hMg.out i hi19
          have hsn : Hid (nums (MO.take i) ++ [.int .i64 (MO.getD i 0)] = nums (MO.take (i + 1))) := Lib.hid (by
            rw [List.take_add_one, getD_get (by rw [hMO.out]; exact hi19)]; simp [nums])
          have cr := (H.front 1 rfl).getc (nums_get (getD_get (F := RL) (i := ordF.getD i 0) (by rw [HRLL.out]; exact ho2)))
          rw [← hmg] at cr
          have hix : ∀ w, (Instr.index 101 (.agg OA) (.int .i64 i)).run Try.prog w = .ok (.int .i64 ((ordF.getD i 0 : Nat) : Int)) w := fun w => run_index_arr _ _ 19 OA i _ w Try.underlying101 (fun w => (int_one w).1) (fun w => (int_one w).2) hi19 ho1
          have ho2I : ((ordF.getD i 0 : Nat) : Int) < 19 := by omega
          obtain ⟨oj, hoj⟩ : ∃ oj, ordF.getD i 0 = oj := ⟨_, rfl⟩
          obtain ⟨mv, hmv⟩ : ∃ mv, MO.getD i 0 = mv := ⟨_, rfl⟩
          rw [hoj] at ho1 ho2 ho2I cr hix
          rw [hmv] at hsn cr
          clear hoj hmv
          clear hmg
          go_wp2_with (at_builtin; refine wpList_append_one rfl _ _ rfl Try.underlying22 intInfo rfl (by decide) rfl H (news := [.int .i64 mv]) rfl rfl rfl (by simp [Value.oneCell']) (by omega) (by omega) ?_; clear H cr; intro v' w' H; rw [hsn.out] at H; obtain ⟨a10, c10, rfl, -⟩ := H.rd.shape)
          go_roundw
          case rel => exact ⟨i + 1, by go_num, by omega, H⟩
          case measure => simp [intOf]; omega
        · obtain rfl : i = 19 := by omega
          have hiI : ¬ (((19 : Nat) : Int) < 19) := by omega
          rw [List.take_of_length_le (by rw [hMO.out]; exact Nat.le_refl _)] at H
          obtain ⟨g6, c6, he6, -⟩ := H.at (by rw [nums_length, hMO.out]; omega)
          cases he6
          have kt := fun w1 (h : Own w0 w1 (slc 3 1 (.slice (some ⟨g6, 0, none⟩) 19 c9) 19 (nums MO) :: slc 3 1 (.slice (some ⟨g5, 0, none⟩) 19 c5) 19 (nums RL) :: slc 100 3 (.slice a8 k c8) k (rows rcell RS) :: slc 3 1 (.slice (some ⟨g3, 0, none⟩) nL c3) nL (nums L) :: slc 3 1 (.slice (some ⟨g4, 0, none⟩) nD c4) nD (nums D) :: Wtr g bs :: ps)) => trim_own 4 h hMO.out (by omega) (by omega)
          rw [hSO2.out] at kt
          have KT := Lib.hid kt
          clear kt
          go_wp2_with fail
          refine (KT.out _ H).mono ?_
          rintro e w14 ⟨_, rfl, rfl, H14⟩
          clear H KT
          obtain ⟨nS, hnS⟩ : ∃ n, Hid (SO.length = n) := ⟨_, Lib.hid rfl⟩
          rw [hnS.out] at H14 hS1 hS2 ⊢
          have H : Own w0 w14 (Wtr g bs :: slc 3 1 (.slice (some ⟨g6, 0, none⟩) nS c9) nS (nums SO) :: slc 3 1 (.slice (some ⟨g5, 0, none⟩) 19 c5) 19 (nums RL) :: slc 100 3 (.slice a8 k c8) k (rows rcell RS) :: slc 3 1 (.slice (some ⟨g3, 0, none⟩) nL c3) nL (nums L) :: slc 3 1 (.slice (some ⟨g4, 0, none⟩) nD c4) nD (nums D) :: ps) := H14.front 5 rfl
          clear H14
          go_wp2_with fail
          have k1 := fun w1 h => head_any (w := w1) (w0 := w0) (ps := slc 3 1 (.slice (some ⟨g6, 0, none⟩) nS c9) nS (nums SO) :: slc 3 1 (.slice (some ⟨g5, 0, none⟩) 19 c5) 19 (nums RL) :: slc 100 3 (.slice a8 k c8) k (rows rcell RS) :: slc 3 1 (.slice (some ⟨g3, 0, none⟩) nL c3) nL (nums L) :: slc 3 1 (.slice (some ⟨g4, 0, none⟩) nD c4) nD (nums D) :: ps) (g := g) (bs := bs) last 2 (by omega) h (by omega)
          obtain ⟨W1, hW1⟩ : ∃ W, Hid (bs ++ headB last 2 = W) := ⟨_, Lib.hid rfl⟩
          have hW1l : W1.length = bs.length + 3 := by rw [← hW1.out, List.length_append]; simp [headB, bitsOf_length]
          rw [hW1.out] at k1
          have e1 : (nL : Int) - 256 - 1 = (nL : Int) - 257 := by omega
          have k2 := fun w1 h => put_any (w := w1) (w0 := w0) (ps := slc 3 1 (.slice (some ⟨g6, 0, none⟩) nS c9) nS (nums SO) :: slc 3 1 (.slice (some ⟨g5, 0, none⟩) 19 c5) 19 (nums RL) :: slc 100 3 (.slice a8 k c8) k (rows rcell RS) :: slc 3 1 (.slice (some ⟨g3, 0, none⟩) nL c3) nL (nums L) :: slc 3 1 (.slice (some ⟨g4, 0, none⟩) nD c4) nD (nums D) :: ps) (g := g) (bs := W1) ((nL : Int) - 256 - 1) 5 (by omega) (by omega) h (by omega)
          have k3 := fun w1 h => put_any (w := w1) (w0 := w0) (ps := slc 3 1 (.slice (some ⟨g6, 0, none⟩) nS c9) nS (nums SO) :: slc 3 1 (.slice (some ⟨g5, 0, none⟩) 19 c5) 19 (nums RL) :: slc 100 3 (.slice a8 k c8) k (rows rcell RS) :: slc 3 1 (.slice (some ⟨g3, 0, none⟩) nL c3) nL (nums L) :: slc 3 1 (.slice (some ⟨g4, 0, none⟩) nD c4) nD (nums D) :: ps) (g := g) (bs := W1 ++ bitsOf ((nL : Int) - 257) 5) ((nD : Int) - 1) 5 (by omega) (by omega) h (by rw [List.length_append, bitsOf_length]; omega)
          have k4 := fun w1 h => put_any (w := w1) (w0 := w0) (ps := slc 3 1 (.slice (some ⟨g6, 0, none⟩) nS c9) nS (nums SO) :: slc 3 1 (.slice (some ⟨g5, 0, none⟩) 19 c5) 19 (nums RL) :: slc 100 3 (.slice a8 k c8) k (rows rcell RS) :: slc 3 1 (.slice (some ⟨g3, 0, none⟩) nL c3) nL (nums L) :: slc 3 1 (.slice (some ⟨g4, 0, none⟩) nD c4) nD (nums D) :: ps) (g := g) (bs := W1 ++ bitsOf ((nL : Int) - 257) 5 ++ bitsOf ((nD : Int) - 1) 5) ((nS : Int) - 4) 4 (by omega) (by omega) h (by rw [List.length_append, List.length_append, bitsOf_length, bitsOf_length]; omega)
          rw [show cut 5 = 5 from rfl, e1] at k2
          rw [show cut 5 = 5 from rfl] at k3
          rw [show cut 4 = 4 from rfl] at k4
          obtain ⟨W2, hW2⟩ : ∃ W, Hid (W1 ++ bitsOf ((nL : Int) - 257) 5 ++ bitsOf ((nD : Int) - 1) 5 ++ bitsOf ((nS : Int) - 4) 4 = W) := ⟨_, Lib.hid rfl⟩
          have hW2l : W2.length = bs.length + 17 := by rw [← hW2.out]; simp only [List.length_append, bitsOf_length]; omega
          have hW2b : Hid (W1 ++ sizesB nL nD nS = W2) := Lib.hid (by rw [← hW2.out]; unfold sizesB; simp only [List.append_assoc])
          rw [hW2.out] at k4
          have hw1 : IntKind.i64.wrap ((nL : Int) - 256) = (nL : Int) - 256 := IntWalk.i64_in _ ⟨by omega, by omega⟩
          have hw2 : IntKind.i64.wrap ((nL : Int) - 256 - 1) = (nL : Int) - 257 := by rw [e1]; exact IntWalk.i64_in _ ⟨by omega, by omega⟩
          have hw3 : IntKind.i64.wrap ((nD : Int) - 1) = (nD : Int) - 1 := IntWalk.i64_in _ ⟨by omega, by omega⟩
          have hw4 : IntKind.i64.wrap ((nS : Int) - 4) = (nS : Int) - 4 := IntWalk.i64_in _ ⟨by omega, by omega⟩
          have K1 := Lib.hid k1
          have K2 := Lib.hid k2
          have K3 := Lib.hid k3
          have K4 := Lib.hid k4
          clear k1 k2 k3 k4 e1
          refine (K1.out _ H).mono ?_
          rintro e w15 ⟨_, rfl, H15⟩
          clear H
          go_wp2_with fail
          refine (K2.out _ H15).mono ?_
          rintro e w16 ⟨_, rfl, H⟩
          clear H15
          go_wp2_with fail
          refine (K3.out _ H).mono ?_
          rintro e w17 ⟨_, rfl, H17⟩
          clear H
          go_wp2_with fail
          refine (K4.out _ H17).mono ?_
          rintro e w18 ⟨_, rfl, H⟩
          clear H17 K1 K2 K3 K4 hw1 hw2 hw3 hw4
          go_wp2_with fail
          go_loopw [105] (fun s105 wx => ∃ j : Nat, s105 = .int .i64 j ∧ j ≤ nS ∧ Own w0 wx (Wtr g (W2 ++ lensB (SO.take j)) :: slc 3 1 (.slice (some ⟨g6, 0, none⟩) nS c9) nS (nums SO) :: slc 3 1 (.slice (some ⟨g5, 0, none⟩) 19 c5) 19 (nums RL) :: slc 100 3 (.slice a8 k c8) k (rows rcell RS) :: slc 3 1 (.slice (some ⟨g3, 0, none⟩) nL c3) nL (nums L) :: slc 3 1 (.slice (some ⟨g4, 0, none⟩) nD c4) nD (nums D) :: ps)) (fun s105 _ => nS - (intOf s105).toNat)
          case atStart => exact ⟨0, by go_num, by omega, by simpa [lensB] using H⟩
          case round =>
            clear H
            obtain ⟨j, rfl, hj, H⟩ := hrel
            have hll : (lensB (SO.take j)).length ≤ 3 * 19 := by
              have h1 := flat_le (f := fun n => bitsOf n 3) (b := 3) (SO.take j) (fun x _ => by rw [bitsOf_length]; exact Nat.le_refl _)
              rw [List.length_take] at h1
              unfold lensB
              omega
            by_cases hjl : j < nS
            · have hjI : (j : Int) < (nS : Int) := by omega
              have hjS : j < SO.length := by rw [hnS.out]; exact hjl
              have cs := (H.front 1 rfl).getc (nums_get (getD_get hjS))
              have hx7 := M7.out _ (mem_getD2 hjS)
              have hsn : Hid (W2 ++ lensB (SO.take (j + 1)) = W2 ++ lensB (SO.take j) ++ bitsOf (SO.getD j 0) 3) := Lib.hid (by rw [lensB_succ hjS, List.append_assoc])
              obtain ⟨xv, hxv⟩ : ∃ xv, SO.getD j 0 = xv := ⟨_, rfl⟩
              rw [hxv] at cs hx7 hsn
              have k1 := fun w1 h => put_any (w := w1) (w0 := w0) (ps := slc 3 1 (.slice (some ⟨g6, 0, none⟩) nS c9) nS (nums SO) :: slc 3 1 (.slice (some ⟨g5, 0, none⟩) 19 c5) 19 (nums RL) :: slc 100 3 (.slice a8 k c8) k (rows rcell RS) :: slc 3 1 (.slice (some ⟨g3, 0, none⟩) nL c3) nL (nums L) :: slc 3 1 (.slice (some ⟨g4, 0, none⟩) nD c4) nD (nums D) :: ps) (g := g) (bs := W2 ++ lensB (SO.take j)) xv 3 (by omega) (by omega) h (by rw [List.length_append]; omega)
              rw [show cut 3 = 3 from rfl, ← hsn.out] at k1
              have K1 := Lib.hid k1
              clear k1 hxv hll
              go_wp2_with fail
              refine (K1.out _ H).mono ?_
              rintro e w19 ⟨_, rfl, H19⟩
              clear H cs
              go_wp2_with fail
              go_roundw
              case rel => exact ⟨j + 1, by go_num, by omega, H19⟩
              case measure => simp [intOf]; omega
            · obtain rfl : j = nS := by omega
              have hjI : ¬ (j : Int) < (j : Int) := by omega
              rw [List.take_of_length_le (by rw [hnS.out]; exact Nat.le_refl _)] at H hll
              obtain ⟨W3, hW3⟩ : ∃ W, Hid (W2 ++ lensB SO = W) := ⟨_, Lib.hid rfl⟩
              have hW3l : W3.length ≤ bs.length + 74 := by rw [← hW3.out, List.length_append]; omega
              rw [hW3.out] at H
              have km := fun w1 h => made_any (w := w1) (v := .slice (some ⟨g5, 0, none⟩) 19 c5) (n := 19) (L := RL) h (by omega) MR.out.cerr
              rw [HRLL.out] at km
              have KM := Lib.hid km
              clear km hll
              go_wp2_with fail
              refine (KM.out _ (H.front 2 rfl).rd).mono ?_
              rintro e w20 ⟨_, rfl, u11, rfl, J⟩
              replace H := H.join J
              clear J KM
              obtain ⟨a11, c11, rfl, -⟩ := H.rd.shape
              go_upto_region 29 with (refine wpList_store_agg (vs := [.slice (some ⟨g5, 0, none⟩) 19 c5, .slice a11 19 c11]) rfl _ _ rfl rfl (H.alloc _) rfl (by kernel_rfl) (by simp) (by simp; exact ⟨rfl, rfl⟩) rfl ?_; intro w21 H21)
              clear H
              generalize w20.heap.size = gc at *
              have H : Own w0 w21 (Wtr g W3 :: blk gc (.cells #[.slice (some ⟨g5, 0, none⟩) 19 c5, .slice a11 19 c11] 75) :: slc 3 1 (.slice a11 19 c11) 19 (nums (codesF RL)) :: slc 3 1 (.slice (some ⟨g6, 0, none⟩) j c9) j (nums SO) :: slc 3 1 (.slice (some ⟨g5, 0, none⟩) 19 c5) 19 (nums RL) :: slc 100 3 (.slice a8 k c8) k (rows rcell RS) :: slc 3 1 (.slice (some ⟨g3, 0, none⟩) nL c3) nL (nums L) :: slc 3 1 (.slice (some ⟨g4, 0, none⟩) nD c4) nD (nums D) :: ps) := H21.front 2 rfl
              clear H21
              have hco : CodOk w0 (blk gc (.cells #[.slice (some ⟨g5, 0, none⟩) 19 c5, .slice a11 19 c11] 75) :: slc 3 1 (.slice a11 19 c11) 19 (nums (codesF RL)) :: slc 3 1 (.slice (some ⟨g6, 0, none⟩) j c9) j (nums SO) :: slc 3 1 (.slice (some ⟨g5, 0, none⟩) 19 c5) 19 (nums RL) :: slc 100 3 (.slice a8 k c8) k (rows rcell RS) :: slc 3 1 (.slice (some ⟨g3, 0, none⟩) nL c3) nL (nums L) :: slc 3 1 (.slice (some ⟨g4, 0, none⟩) nD c4) nD (nums D) :: ps) (.slice (some ⟨g5, 0, none⟩) 19 c5) (.slice a11 19 c11) RL := ⟨fun w' h => by rw [HRLL.out]; exact (h.front 3 rfl).rd, fun w' h => by rw [HRLL.out]; exact (h.front 1 rfl).rd, MR.out.all, MR.out.wt, by rw [HRLL.out]; omega⟩
              have HCO := Lib.hid hco
              have hbdR : ∀ m, (runsB RL (RS.take m)).length ≤ 22 * 632 := fun m => by
                have h1 := flat_le (f := runB RL) (b := 22) (RS.take m) (fun r hr => by
                  have h2 := cbits_le MR.out.all r.sym.toNat
                  have h3 := (OKR.out r (List.mem_of_mem_take hr)).n
                  unfold runB
                  rw [List.length_append, bitsOf_length]
                  omega)
                rw [List.length_take] at h1
                unfold runsB
                have := hnR.out
                omega
              have HBR := Lib.hid hbdR
              clear hco hbdR
              go_wp2_with fail
              go_loopw [117] (fun s117 wx => ∃ m : Nat, s117 = .int .i64 m ∧ m ≤ k ∧ Own w0 wx (Wtr g (W3 ++ runsB RL (RS.take m)) :: blk gc (.cells #[.slice (some ⟨g5, 0, none⟩) 19 c5, .slice a11 19 c11] 75) :: slc 3 1 (.slice a11 19 c11) 19 (nums (codesF RL)) :: slc 3 1 (.slice (some ⟨g6, 0, none⟩) j c9) j (nums SO) :: slc 3 1 (.slice (some ⟨g5, 0, none⟩) 19 c5) 19 (nums RL) :: slc 100 3 (.slice a8 k c8) k (rows rcell RS) :: slc 3 1 (.slice (some ⟨g3, 0, none⟩) nL c3) nL (nums L) :: slc 3 1 (.slice (some ⟨g4, 0, none⟩) nD c4) nD (nums D) :: ps)) (fun s117 _ => k - (intOf s117).toNat)
              case atStart => exact ⟨0, by go_num, by omega, by simpa [runsB] using H⟩
              case round =>
                clear H
                obtain ⟨m, rfl, hm, H⟩ := hrel
                have hbl := HBR.out m
                by_cases hmk : m < k
                · have hmI : (m : Int) < (k : Int) := by omega
                  obtain ⟨t, htk⟩ := get_of_lt (l := RS) (k := m) (by rw [hnR.out]; exact hmk)
                  have hok := OKR.out t (List.mem_of_getElem? htk)
                  have hps := runL_pos OKR.out (by rw [hnR.out]; omega) (List.mem_of_getElem? htk)
                  rw [hRL.out] at hps
                  obtain ⟨b, o, _, he2, -⟩ := (H.front 5 rfl).rd.some (by rw [rows_length rcell rcell_length, hnR.out]; omega)
                  cases he2
                  obtain ⟨c0, cc1, cc2⟩ := run_cells (H.front 5 rfl).rd htk
                  have hsn := runB_succ (ls := RL) htk
                  unfold runB at hsn
                  obtain ⟨hsy, hrn1, hrv⟩ := hok
                  obtain ⟨x, y, z⟩ := t
                  simp only at c0 cc1 cc2 hsy hrn1 hrv hps hsn
                  obtain ⟨x, rfl⟩ : ∃ s : Nat, x = s := ⟨x.toNat, by omega⟩
                  obtain ⟨y, rfl⟩ : ∃ s : Nat, y = s := ⟨y.toNat, by omega⟩
                  simp only [Int.toNat_natCast] at hps hsn hrv
                  have hxl := pos_lt hps
                  have hz128 : z < 128 := by
                    have : (2 : Int) ^ y ≤ 2 ^ 7 := pow2_le (by omega)
                    omega
                  have hsn2 : Hid (W3 ++ runsB RL (RS.take (m + 1)) = W3 ++ runsB RL (RS.take m) ++ cbits RL x ++ bitsOf z y) := Lib.hid (by rw [hsn]; simp only [List.append_assoc])
                  obtain ⟨WB, hWB⟩ : ∃ W, Hid (W3 ++ runsB RL (RS.take m) = W) := ⟨_, Lib.hid rfl⟩
                  have hWBl : WB.length ≤ bs.length + 14000 := by rw [← hWB.out, List.length_append]; omega
                  rw [hWB.out] at H hsn2
                  have hcx := cbits_le MR.out.all x
                  have k1 := fun (tb : Nat) w1 h => cput_any (w := w1) (HCO.out.mono (qs := blk tb (.cells #[.int .i64 (x : Int), .int .i64 (y : Int), .int .i64 z] 100) :: blk gc (.cells #[.slice (some ⟨g5, 0, none⟩) 19 c5, .slice a11 19 c11] 75) :: slc 3 1 (.slice a11 19 c11) 19 (nums (codesF RL)) :: slc 3 1 (.slice (some ⟨g6, 0, none⟩) j c9) j (nums SO) :: slc 3 1 (.slice (some ⟨g5, 0, none⟩) 19 c5) 19 (nums RL) :: slc 100 3 (.slice (some ⟨b, o, none⟩) k c8) k (rows rcell RS) :: slc 3 1 (.slice (some ⟨g3, 0, none⟩) nL c3) nL (nums L) :: slc 3 1 (.slice (some ⟨g4, 0, none⟩) nD c4) nD (nums D) :: ps) fun w' h => h.drop) hxl h (bs := WB) (g := g) (by omega)
                  have k2 := fun (tb : Nat) w1 h => put_any (w := w1) (w0 := w0) (ps := blk tb (.cells #[.int .i64 (x : Int), .int .i64 (y : Int), .int .i64 z] 100) :: blk gc (.cells #[.slice (some ⟨g5, 0, none⟩) 19 c5, .slice a11 19 c11] 75) :: slc 3 1 (.slice a11 19 c11) 19 (nums (codesF RL)) :: slc 3 1 (.slice (some ⟨g6, 0, none⟩) j c9) j (nums SO) :: slc 3 1 (.slice (some ⟨g5, 0, none⟩) 19 c5) 19 (nums RL) :: slc 100 3 (.slice (some ⟨b, o, none⟩) k c8) k (rows rcell RS) :: slc 3 1 (.slice (some ⟨g3, 0, none⟩) nL c3) nL (nums L) :: slc 3 1 (.slice (some ⟨g4, 0, none⟩) nD c4) nD (nums D) :: ps) (g := g) (bs := WB ++ cbits RL x) z (y : Int) (by omega) (by omega) h (by rw [List.length_append]; omega)
                  rw [cut_eq (by omega) (by omega), Int.toNat_natCast, ← hsn2.out] at k2
                  have K1 := Lib.hid k1
                  have K2 := Lib.hid k2
                  clear k1 k2 hsn hrv hps hbl htk hcx hxl
                  go_upto_region 32 with (refine wpList_store_agg (vs := [.int .i64 x, .int .i64 y, .int .i64 z]) rfl _ _ rfl rfl (H.alloc _) rfl (by kernel_rfl) (by simp) (by simp; exact ⟨rfl, rfl, rfl⟩) rfl ?_; clear c0 cc1 cc2; intro w22 H22)
                  clear H
                  generalize wr.heap.size = tb at *
                  have H : Own w0 w22 (Wtr g WB :: blk tb (.cells #[.int .i64 (x : Int), .int .i64 (y : Int), .int .i64 z] 100) :: blk gc (.cells #[.slice (some ⟨g5, 0, none⟩) 19 c5, .slice a11 19 c11] 75) :: slc 3 1 (.slice a11 19 c11) 19 (nums (codesF RL)) :: slc 3 1 (.slice (some ⟨g6, 0, none⟩) j c9) j (nums SO) :: slc 3 1 (.slice (some ⟨g5, 0, none⟩) 19 c5) 19 (nums RL) :: slc 100 3 (.slice (some ⟨b, o, none⟩) k c8) k (rows rcell RS) :: slc 3 1 (.slice (some ⟨g3, 0, none⟩) nL c3) nL (nums L) :: slc 3 1 (.slice (some ⟨g4, 0, none⟩) nD c4) nD (nums D) :: ps) := H22.swap
                  clear H22
                  have c0 := (H.front 1 rfl).cells
                  have cg := (H.front 2 rfl).cells
                  go_wp2_with fail
                  refine (K1.out _ _ H).mono ?_
                  rintro e w23 ⟨_, rfl, H23⟩
                  clear H c0 cg
                  have c0 := (H23.front 1 rfl).cells
                  go_wp2_with fail
                  refine (K2.out _ _ H23).mono ?_
                  rintro e w24 ⟨_, rfl, H24⟩
                  clear H23 c0
                  have H := (H24.front 1 rfl).drop
                  clear H24
                  go_wp2_with fail
                  go_roundw
                  case rel => exact ⟨m + 1, by go_num, by omega, H⟩
                  case measure => simp [intOf]; omega
                · obtain rfl : m = k := by omega
                  have hmI : ¬ (m : Int) < (m : Int) := by omega
                  rw [List.take_of_length_le (by rw [hnR.out]; exact Nat.le_refl _)] at H hbl
                  obtain ⟨W4, hW4⟩ : ∃ W, Hid (W3 ++ runsB RL RS = W) := ⟨_, Lib.hid rfl⟩
                  have hW4l : W4.length ≤ bs.length + 14000 := by rw [← hW4.out, List.length_append]; omega
                  rw [hW4.out] at H
                  have kL := fun w1 h => made_any (w := w1) (v := .slice (some ⟨g3, 0, none⟩) nL c3) (n := nL) (L := L) h (by omega) ML.out.cerr
                  have kD := fun w1 h => made_any (w := w1) (v := .slice (some ⟨g4, 0, none⟩) nD c4) (n := nD) (L := D) h (by omega) MD.out.cerr
                  rw [hnL.out] at kL
                  rw [hnD.out] at kD
                  have KL := Lib.hid kL
                  have KD := Lib.hid kD
                  clear kL kD hbl
                  go_wp2_with fail
                  refine (KL.out _ (H.front 6 rfl).rd).mono ?_
                  rintro e w25 ⟨_, rfl, u12, rfl, J⟩
                  replace H := H.join J
                  clear J KL
                  obtain ⟨a12, c12, rfl, -⟩ := H.rd.shape
                  go_wp2_with fail
                  refine (KD.out _ (H.front 8 rfl).rd).mono ?_
                  rintro e w26 ⟨_, rfl, u13, rfl, J⟩
                  replace H := H.join J
                  clear J KD
                  obtain ⟨a13, c13, rfl, -⟩ := H.rd.shape
                  have H : Own w0 w26 (Wtr g W4 :: slc 3 1 (.slice a13 nD c13) nD (nums (codesF D)) :: slc 3 1 (.slice a12 nL c12) nL (nums (codesF L)) :: slc 3 1 (.slice (some ⟨g3, 0, none⟩) nL c3) nL (nums L) :: slc 3 1 (.slice (some ⟨g4, 0, none⟩) nD c4) nD (nums D) :: ps) := (((((((H.front 2 rfl).front 7 rfl).front 7 rfl).front 7 rfl).front 7 rfl).front 7 rfl).drop.drop.drop.drop.drop)
                  have cokL : CodOk w0 (slc 3 1 (.slice a13 nD c13) nD (nums (codesF D)) :: slc 3 1 (.slice a12 nL c12) nL (nums (codesF L)) :: slc 3 1 (.slice (some ⟨g3, 0, none⟩) nL c3) nL (nums L) :: slc 3 1 (.slice (some ⟨g4, 0, none⟩) nD c4) nD (nums D) :: ps) (.slice (some ⟨g3, 0, none⟩) nL c3) (.slice a12 nL c12) L := ⟨fun w' h => by rw [hnL.out]; exact (h.front 2 rfl).rd, fun w' h => by rw [hnL.out]; exact (h.front 1 rfl).rd, ML.out.all, ML.out.wt, by rw [hnL.out]; omega⟩
                  have cokD : CodOk w0 (slc 3 1 (.slice a13 nD c13) nD (nums (codesF D)) :: slc 3 1 (.slice a12 nL c12) nL (nums (codesF L)) :: slc 3 1 (.slice (some ⟨g3, 0, none⟩) nL c3) nL (nums L) :: slc 3 1 (.slice (some ⟨g4, 0, none⟩) nD c4) nD (nums D) :: ps) (.slice (some ⟨g4, 0, none⟩) nD c4) (.slice a13 nD c13) D := ⟨fun w' h => by rw [hnD.out]; exact (h.front 3 rfl).rd, fun w' h => by rw [hnD.out]; exact h.rd, MD.out.all, MD.out.wt, by rw [hnD.out]; omega⟩
                  have kb := body_any cokL cokD (l := l) (tv := .slice ta N tc) (by rw [hN.out]; exact HT.out.mono fun w' h => h.drop.drop.drop.drop) OKS.out (by rw [hnL.out]; omega) H (by rw [hN.out]; omega)
                  have KB := Lib.hid kb
                  have hfin : Hid (bs ++ headB last 2 ++ (sizesB L.length D.length SO.length ++ (lensB SO ++ (runsB RL RS ++ bodyB L D l))) = W4 ++ bodyB L D l) := Lib.hid (by
                    rw [hnL.out, hnD.out, hnS.out, ← hW4.out, ← hW3.out, ← hW2b.out, ← hW1.out]
                    simp only [List.append_assoc])
                  clear kb cokL cokD
                  go_wp2_with fail
                  refine KB.out.mono ?_
                  rintro e w27 ⟨_, rfl, H27⟩
                  go_wp2_with fail
                  go_end0
                  rw [hfin.out]
                  exact ⟨_, rfl, (((((H27.front 4 rfl).front 4 rfl).front 4 rfl).front 4 rfl).drop.drop.drop.drop)⟩
end Go.Proofs.Ytpbodonmiepilaa
/- Bits: Writer.Align. -/
namespace Go.Proofs.Ytpbodonmiepilaa
open Go.RowKit

set_option maxHeartbeats 400000 in
theorem align_gen {w0 w : World} {ps : List Piece} {g : Nat} {a : Option Addr} {N cp m : Nat} {xs : List Value} (H : Own w0 w (blk g (.cells #[.slice a N cp, .int .i64 m] 56) :: ps)) (hN1 : N ≤ 35184372088832) (hc1 : N ≤ cp) (hc2 : cp ≤ 9223372036854775807) :
    Calls Try.prog 48 #[.pointer (some ⟨g, 0, none⟩)] w (Ret fun _ w' => Own w0 w' (blk g (.cells #[.slice a N cp, .int .i64 (8 * N : Nat)] 56) :: ps)) := by
  have c0 := H.cells
  go_enter Try.func48, Try.ntmps48
  go_wp2_with (refine wpList_store_int rfl _ _ rfl rfl H rfl (by kernel_rfl) (by simp) ?_; clear H c0; intro w3 H)
  go_end0
  refine ⟨_, rfl, ?_⟩
  simpa using H
theorem align_any {w0 w : World} {ps : List Piece} {g : Nat} {bs : List Bool} (H : Own w0 w (Wtr g bs :: ps)) (hl : bs.length ≤ 35184372088832) :
    Calls Try.prog 48 #[.pointer (some ⟨g, 0, none⟩)] w (Ret fun _ w' => Own w0 w' (Wtr g (aligned bs) :: ps)) := by
  obtain ⟨a, cp, hc1, hc2, H⟩ := H.wtr
  refine (align_gen (xs := []) H (by unfold nbytes; omega) hc1 hc2).mono ?_
  rintro e w3 ⟨v, rfl, H⟩
  refine ⟨_, rfl, H.unwtr ?_ ?_ ?_⟩
  · rw [aligned_length]
  · rw [aligned_length]; unfold nbytes; omega
  · rw [bytesOf_aligned]
end Go.Proofs.Ytpbodonmiepilaa
/- Bits: Writer.Text. -/
namespace Go.Proofs.Ytpbodonmiepilaa
open Go.RowKit

set_option maxHeartbeats 400000 in
theorem text_any {w0 w : World} {ps : List Piece} {g : Nat} {bs : List Bool} (s : ByteArray) (H : Own w0 w (Wtr g bs :: ps)) (hl : bs.length + s.size ≤ 35184372088000) :
    Calls Try.prog 50 #[.pointer (some ⟨g, 0, none⟩), .string s] w (Ret fun _ w' => Own w0 w' (Wtr g (aligned bs ++ textBits s) :: ps)) := by
  go_enter Try.func50, Try.ntmps50
  go_wp2_with fail
  refine (align_any H (by omega)).mono ?_
  rintro e w1 ⟨_, rfl, H1⟩
  clear H
  obtain ⟨m, hm⟩ : ∃ m, Hid ((aligned bs).length = m) := ⟨_, rfl⟩
  obtain ⟨N, hN⟩ : ∃ N, Hid (nbytes m = N) := ⟨_, rfl⟩
  have hmN : m = 8 * N ∧ N ≤ nbytes bs.length := by have h1 := hm.out; have h2 := hN.out; rw [aligned_length] at h1; unfold nbytes at *; omega
  obtain ⟨hmN, hN2⟩ := hmN
  have hN3 : N + s.size ≤ 35184372088800 := by unfold nbytes at hN2; omega
  obtain ⟨a, cp, hc1, hc2, H⟩ := H1.wtr
  clear H1
  rw [hm.out] at H hc1
  rw [hN.out] at H hc1
  have c0 := H.cells
  go_wp2_with (first
    | (at_builtin; refine wpList_append_str rfl _ _ rfl Try.underlying54 Try.underlying9 u8Info rfl rfl H.swap rfl (by omega) ?_; clear H c0; intro v' w' H; replace H := H.swap; obtain ⟨a', c', rfl, h1', h2'⟩ := (H.front 1 rfl).rd.shape)
    | (refine wpList_store_slice rfl _ _ rfl rfl H rfl (by kernel_rfl) (by simp) ?_; clear H; intro w2 H))
  refine (align_gen (xs := []) (m := m) (by simpa using H) (by omega) h1' h2').mono ?_
  rintro e w3 ⟨_, rfl, H3⟩
  go_wp2
  go_end0
  have hlen : (aligned bs ++ textBits s).length = 8 * (N + s.size) := by rw [List.length_append, hm.out, textBits_length]; omega
  refine ⟨_, rfl, H3.unwtr ?_ ?_ ?_⟩
  · rw [hlen]
  · rw [hlen]; unfold nbytes; omega
  · rw [bytesOf_append _ _ (by rw [hm.out]; omega), textBits, bytesOf_nums _ (byteNums_bd s), byteCells_nums]
    simp [u8s]
end Go.Proofs.Ytpbodonmiepilaa
/- flate: the walk of Store. -/
namespace Go.Proofs.Ytpbodonmiepilaa
open Go.RowKit

theorem xor16 {n : Nat} (h : n ≤ 65535) : bits .xor .i64 (n : Int) 65535 = 65535 - (n : Int) := by
  have h1 : n ^^^ 65535 = 65535 - n := by
    have e1 : (BitVec.ofNat 16 n ^^^ BitVec.allOnes 16).toNat = 65535 - n := by
      rw [BitVec.xor_allOnes, BitVec.toNat_not, BitVec.toNat_ofNat, Nat.mod_eq_of_lt (by omega)]
    rw [BitVec.toNat_xor, BitVec.toNat_ofNat, Nat.mod_eq_of_lt (by omega)] at e1
    exact e1
  have key : IntKind.i64.wrap ((BitVec.ofInt 64 (n : Int) ^^^ BitVec.ofInt 64 ((65535 : Nat) : Int)).toNat : Int) = 65535 - (n : Int) := by
    rw [BitVec.ofInt_natCast, BitVec.ofInt_natCast, BitVec.toNat_xor, BitVec.toNat_ofNat, BitVec.toNat_ofNat, Nat.mod_eq_of_lt (by omega), Nat.mod_eq_of_lt (by omega), h1, IntKind.wrap_i64]
    omega
  exact key
theorem aligned_id {bs : List Bool} (h : bs.length % 8 = 0) : aligned bs = bs := by
  unfold aligned padN
  rw [h]
  simp
theorem aligned_mod (bs : List Bool) : (aligned bs).length % 8 = 0 := by rw [aligned_length]; omega
def strLen : Value → Nat | .string t => t.size | _ => 0
def boolNum : Value → Nat | .bool true => 1 | _ => 0
/-- A chunk of a text as it is. -/
def chunkB (last : Bool) (t : ByteArray) (bs : List Bool) : List Bool := aligned (bs ++ headB last 0) ++ (bitsOf (t.size : Int) 16 ++ (bitsOf (65535 - (t.size : Int)) 16 ++ textBits t))
theorem chunk_len (last : Bool) (t : ByteArray) (bs : List Bool) : (chunkB last t bs).length ≤ bs.length + 8 * t.size + 48 := by
  unfold chunkB
  rw [List.length_append, List.length_append, List.length_append, bitsOf_length, bitsOf_length, textBits_length, aligned_length, List.length_append]
  simp [headB, bitsOf_length, nbytes]
  omega
theorem storeB_more {f : Nat} {t : ByteArray} {bs : List Bool} (h : ¬ t.size ≤ 65535) : storeB (f + 1) t bs = storeB f (t.extract 65535 t.size) (chunkB false (t.extract 0 65535) bs) := by
  rw [storeB, if_neg h]
  unfold chunkB
  rw [show (t.extract 0 65535).size = 65535 by rw [ByteArray.size_extract]; omega]
  rfl
theorem storeB_last {f : Nat} {t : ByteArray} {bs : List Bool} (h : t.size ≤ 65535) : storeB (f + 1) t bs = chunkB true t bs := by
  rw [storeB, if_pos h]; rfl

theorem tl_empty (t : ByteArray) : t.toList.isEmpty = decide (t.size = 0) := by
  rw [str_data]
  cases h : t.data.toList with
  | nil =>
    have : t.data.size = 0 := by rw [← Array.length_toList, h]; rfl
    have : t.size = 0 := this
    rw [this]; rfl
  | cons a l =>
    have : t.data.size = l.length + 1 := by rw [← Array.length_toList, h]; rfl
    have : t.size = l.length + 1 := this
    rw [this]; rfl
set_option maxRecDepth 100000 in
set_option maxHeartbeats 3200000 in
theorem store_any {w : World} (s : ByteArray) (hs : s.size ≤ 1000000) :
    Calls Try.prog 31 #[.string s] w (Ret fun r w' => r = .string (textOf (storeF s)) ∧ Own w w' []) := by
  have H := (Own.start w).newWtr
  obtain ⟨R, hR⟩ : ∃ R, Hid (storeF s = R) := ⟨_, Lib.hid rfl⟩
  rw [hR.out]
  have hR2 : Hid (storeB (s.size + 1) s [] = R) := Lib.hid hR.out
  clear hR
  go_enter Try.func31, Try.ntmps31
  go_wp2_with fail
  generalize w.alloc _ = w1 at *
  generalize w.heap.size = g at *
  go_loopw [0, 4] (fun s0 s4 wx => ∃ (t : ByteArray) (b : Bool) (f : Nat) (B : List Bool), s0 = .string t ∧ s4 = .bool b ∧ t.size ≤ 1000000 ∧ t.size < f + 1 ∧ (Hid (B.length ≤ 10 * (1000000 - t.size) + 48) ∧ (b = true ∨ 0 < t.size) ∧ Hid (storeB (f + 1) t B = R) ∨ b = false ∧ t.size = 0 ∧ Hid (B = R)) ∧ Own w wx [Wtr g B]) (fun s0 s4 _ => 2 * strLen s0 + boolNum s4)
  case atStart => exact ⟨s, true, s.size, [], rfl, rfl, hs, by omega, .inl ⟨Lib.hid (by simp), .inl rfl, hR2⟩, H⟩
  case round =>
    clear H hR2
    obtain ⟨t, b, f, B, rfl, rfl, ht, hf, hc, H⟩ := hrel
    rcases hc with ⟨hBl, hc, hst⟩ | ⟨rfl, ht0, hBR⟩
    · have hte : b = true ∨ t.toList.isEmpty = false := by
        rcases hc with h1 | h1
        · exact .inl h1
        · right; rw [tl_empty, decide_eq_false_iff_not]; omega
      obtain ⟨N, hN⟩ : ∃ N, t.size = N := ⟨_, rfl⟩
      rw [hN] at hf ht hc hBl
      by_cases h16 : N ≤ 65535
      · have hfin := hst.out
        rw [storeB_last (by rw [hN]; exact h16)] at hfin
        have HFIN := Lib.hid hfin
        have hx1 := xor16 h16
        have hex0 : t.extract 0 N = t := by rw [← hN]; exact ByteArray.extract_zero_size
        have ht2s : Hid (ByteArray.empty.size = 0) := Lib.hid rfl
        have hms : Hid (0 < 2 * N + boolNum (.bool b)) := Lib.hid (by rcases hc with h1 | h1
                                                                      · subst h1; simp [boolNum]
                                                                      · omega)
        clear hc hst hfin
        rcases hte with rfl | hte
        case' inr => cases b
        all_goals
          go_upto_region 5 with (fail)
          go_cut [5, 11, 12, 13] (fun s5 _ _ _ wx => wx = wr ∧ s5 = .int .i64 N)
          case first =>
            go_wp2
            all_goals go_meet
            all_goals exact ⟨rfl, val_int (by omega)⟩
          case rest =>
          obtain ⟨rfl, rfl⟩ := hcut
          have k1 := fun w1 (h : Own w w1 [Wtr g B]) => head_any true 0 (by omega) h (by have := hBl.out; omega)
          have k2 := fun w1 (h : Own w w1 [Wtr g (B ++ headB true 0)]) => align_any h (by rw [List.length_append]; simp [headB, bitsOf_length]; have := hBl.out; omega)
          have hal : (aligned (B ++ headB true 0)).length ≤ 11000000 := by rw [aligned_length, List.length_append]; simp [headB, bitsOf_length, nbytes]; have := hBl.out; omega
          have ham := aligned_mod (B ++ headB true 0)
          obtain ⟨A, hA⟩ : ∃ A, Hid (aligned (B ++ headB true 0) = A) := ⟨_, Lib.hid rfl⟩
          rw [hA.out] at k2 hal ham
          have k3 := fun w1 (h : Own w w1 [Wtr g A]) => put_any ((N : Int)) 16 (by omega) (by omega) h (by omega)
          have k4 := fun w1 (h : Own w w1 [Wtr g (A ++ bitsOf ((N : Int)) 16)]) => put_any (65535 - ((N : Int))) 16 (by omega) (by omega) h (by rw [List.length_append, bitsOf_length]; omega)
          rw [show cut 16 = 16 from rfl] at k3 k4
          have hal2 : aligned (A ++ bitsOf ((N : Int)) 16 ++ bitsOf (65535 - ((N : Int))) 16) = A ++ bitsOf ((N : Int)) 16 ++ bitsOf (65535 - ((N : Int))) 16 := aligned_id (by rw [List.length_append, List.length_append, bitsOf_length, bitsOf_length]; omega)
          have k5 := fun w1 (h : Own w w1 [Wtr g (A ++ bitsOf ((N : Int)) 16 ++ bitsOf (65535 - ((N : Int))) 16)]) => text_any (t) h (by rw [List.length_append, List.length_append, bitsOf_length, bitsOf_length]; omega)
          rw [hal2] at k5
          have hch : Hid (A ++ bitsOf ((N : Int)) 16 ++ bitsOf (65535 - ((N : Int))) 16 ++ textBits (t) = chunkB true (t) B) := Lib.hid (by unfold chunkB; rw [hA.out, hN]; simp only [List.append_assoc])
          have K1 := Lib.hid k1
          have K2 := Lib.hid k2
          have K3 := Lib.hid k3
          have K4 := Lib.hid k4
          have K5 := Lib.hid k5
          have hcl := chunk_len true (t) B
          have HCL := Lib.hid hcl
          clear k1 k2 k3 k4 k5 hal ham hal2 hcl
          go_wp2_with fail
          refine (K1.out _ H).mono ?_
          rintro e w3 ⟨_, rfl, H3⟩
          clear H
          go_wp2_with fail
          refine (K2.out _ H3).mono ?_
          rintro e w4 ⟨_, rfl, H⟩
          clear H3
          go_wp2_with fail
          refine (K3.out _ H).mono ?_
          rintro e w5 ⟨_, rfl, H5⟩
          clear H
          go_wp2_with fail
          refine (K4.out _ H5).mono ?_
          rintro e w6 ⟨_, rfl, H⟩
          clear H5
          go_wp2_with fail
          refine (K5.out _ H).mono ?_
          rintro e w7 ⟨_, rfl, H7⟩
          clear H
          rw [hch.out] at H7
          go_wp2_with fail
          go_roundw
          case rel => exact ⟨ByteArray.empty, false, f, _, rfl, rfl, by rw [ht2s.out]; omega, by rw [ht2s.out]; omega, .inr ⟨rfl, ht2s.out, HFIN⟩, H7⟩
          case measure => simp only [strLen, ht2s.out, hN]; exact hms.out
      · have hfin := hst.out
        obtain ⟨f, rfl⟩ : ∃ f', f = f' + 1 := ⟨f - 1, by omega⟩
        obtain ⟨t3, ht3⟩ : ∃ t3, t.extract 0 65535 = t3 := ⟨_, rfl⟩
        obtain ⟨t2, ht2⟩ : ∃ t2, t.extract 65535 N = t2 := ⟨_, rfl⟩
        have ht2s : Hid (t2.size = N - 65535) := Lib.hid (by rw [← ht2, ByteArray.size_extract]; omega)
        have ht3s : t3.size = 65535 := by rw [← ht3, ByteArray.size_extract]; omega
        rw [storeB_more (by rw [hN]; exact h16), hN, ht2, ht3] at hfin
        have HFIN := Lib.hid hfin
        clear hc hst hfin
        have hNI : ((65535 : Int) == (N : Int)) = false := by simp; omega
        have hcI : (65535 : Int) ≤ (N : Int) := by omega
        rcases hte with rfl | hte
        case' inr => cases b
        all_goals
          go_upto_region 5 with (fail)
          go_cut [5, 11, 12, 13] (fun s5 _ _ _ wx => wx = wr ∧ s5 = .int .i64 65535)
          case first =>
            go_wp2
            all_goals go_meet
            all_goals exact ⟨rfl, val_int (by omega)⟩
          case rest =>
          obtain ⟨rfl, rfl⟩ := hcut
          have k1 := fun w1 (h : Own w w1 [Wtr g B]) => head_any false 0 (by omega) h (by have := hBl.out; omega)
          have k2 := fun w1 (h : Own w w1 [Wtr g (B ++ headB false 0)]) => align_any h (by rw [List.length_append]; simp [headB, bitsOf_length]; have := hBl.out; omega)
          have hal : (aligned (B ++ headB false 0)).length ≤ 11000000 := by rw [aligned_length, List.length_append]; simp [headB, bitsOf_length, nbytes]; have := hBl.out; omega
          have ham := aligned_mod (B ++ headB false 0)
          obtain ⟨A, hA⟩ : ∃ A, Hid (aligned (B ++ headB false 0) = A) := ⟨_, Lib.hid rfl⟩
          rw [hA.out] at k2 hal ham
          have k3 := fun w1 (h : Own w w1 [Wtr g A]) => put_any (65535) 16 (by omega) (by omega) h (by omega)
          have k4 := fun w1 (h : Own w w1 [Wtr g (A ++ bitsOf (65535) 16)]) => put_any (65535 - (65535)) 16 (by omega) (by omega) h (by rw [List.length_append, bitsOf_length]; omega)
          rw [show cut 16 = 16 from rfl] at k3 k4
          have hal2 : aligned (A ++ bitsOf (65535) 16 ++ bitsOf (65535 - (65535)) 16) = A ++ bitsOf (65535) 16 ++ bitsOf (65535 - (65535)) 16 := aligned_id (by rw [List.length_append, List.length_append, bitsOf_length, bitsOf_length]; omega)
          have k5 := fun w1 (h : Own w w1 [Wtr g (A ++ bitsOf (65535) 16 ++ bitsOf (65535 - (65535)) 16)]) => text_any (t3) h (by rw [List.length_append, List.length_append, bitsOf_length, bitsOf_length]; omega)
          rw [hal2] at k5
          have hch : Hid (A ++ bitsOf (65535) 16 ++ bitsOf (65535 - (65535)) 16 ++ textBits (t3) = chunkB false (t3) B) := Lib.hid (by unfold chunkB; rw [hA.out, ht3s]; simp only [List.append_assoc]; rfl)
          have K1 := Lib.hid k1
          have K2 := Lib.hid k2
          have K3 := Lib.hid k3
          have K4 := Lib.hid k4
          have K5 := Lib.hid k5
          have hcl := chunk_len false (t3) B
          rw [ht3s] at hcl
          have HCL := Lib.hid hcl
          clear k1 k2 k3 k4 k5 hal ham hal2 hcl
          go_wp2_with fail
          refine (K1.out _ H).mono ?_
          rintro e w3 ⟨_, rfl, H3⟩
          clear H
          go_wp2_with fail
          refine (K2.out _ H3).mono ?_
          rintro e w4 ⟨_, rfl, H⟩
          clear H3
          go_wp2_with fail
          refine (K3.out _ H).mono ?_
          rintro e w5 ⟨_, rfl, H5⟩
          clear H
          go_wp2_with fail
          refine (K4.out _ H5).mono ?_
          rintro e w6 ⟨_, rfl, H⟩
          clear H5
          go_wp2_with fail
          refine (K5.out _ H).mono ?_
          rintro e w7 ⟨_, rfl, H7⟩
          clear H
          rw [hch.out] at H7
          go_wp2_with fail
          go_roundw
          case rel => exact ⟨t2, false, f, _, rfl, rfl, by rw [ht2s.out]; omega, by rw [ht2s.out]; omega, .inl ⟨Lib.hid (by have := HCL.out; have := hBl.out; rw [ht2s.out]; omega), .inr (by rw [ht2s.out]; omega), HFIN⟩, H7⟩
          case measure => simp only [strLen, ht2s.out, hN]; simp [boolNum]; omega
    · have hte : t.toList.isEmpty = true := by rw [tl_empty, ht0]; rfl
      have HT0 := Lib.hid ht0
      clear ht0 hf
      go_wp2_with fail
      refine (bytes_any H).mono ?_
      rintro e w4 ⟨rfl, rfl⟩
      rw [hBR.out]
      go_wp2_with fail
      go_ret
      exact ⟨_, rfl, rfl, H.bare⟩
end Go.Proofs.Ytpbodonmiepilaa
/- flate: the walks of Block, Rich, Pack. -/
namespace Go.Proofs.Ytpbodonmiepilaa
open Go.RowKit

theorem blockB_ne {l : List Tok} {kind : Int} {last : Bool} (h : kind ≠ 1) : blockB l kind last = blockB l 2 last := by
  unfold blockB
  rw [if_neg h, if_neg (by omega)]
theorem block_any {w0 w : World} {ps : List Piece} {g : Nat} {bs : List Bool} {tv : Value} {l : List Tok} (kind : Int) (last : Bool) (ht : Reads w0 ps 3 tv l.length (rows tcell l)) (hs : ∀ t ∈ l, TokOk t) (hln : l.length ≤ 1000000) (H : Own w0 w (Wtr g bs :: ps)) (hl : bs.length + 48 * l.length ≤ 35184372000000) :
    Calls Try.prog 24 #[.pointer (some ⟨g, 0, none⟩), tv, .int .i64 kind, .bool last] w (Ret fun _ w' => Own w0 w' (Wtr g (bs ++ blockB l kind last) :: ps)) := by
  by_cases hk : kind = 1
  · subst hk
    exact block1_any last ht hs H (by omega)
  · have hkb : (kind == 1) = false := by simpa using hk
    rw [blockB_ne hk]
    obtain ⟨ta, tc, rfl, ht1, ht2⟩ := (ht w H.drop).shape
    have k1 := rich_any (g := g) (bs := bs) last ht hs hln H hl
    have K1 := Lib.hid k1
    clear k1 ht hs hk
    generalize l.length = N at *
    go_enter Try.func24, Try.ntmps24
    go_wp2_with fail
    refine K1.out.mono ?_
    rintro e w1 ⟨_, rfl, H2⟩
    go_wp2_with fail
    go_end0
    exact ⟨_, rfl, H2⟩
def richF (s : ByteArray) : ByteArray := textOf (blockB (parse s) 2 true)
set_option maxRecDepth 100000 in
theorem richT_any {w : World} (s : ByteArray) (hs : s.size ≤ 1000000) :
    Calls Try.prog 33 #[.string s] w (Ret fun r w' => r = .string (richF s) ∧ Own w w' []) := by
  have H := (Own.start w).newWtr
  obtain ⟨T, hT⟩ : ∃ T, Hid (parse s = T) := ⟨_, rfl⟩
  have hok := parse_ok s
  have hlen := parse_len s
  unfold richF
  rw [hT.out] at hok hlen ⊢
  have HOK := Lib.hid hok
  clear hok
  go_enter Try.func33, Try.ntmps33
  go_wp2_with fail
  generalize w.alloc _ = w1 at *
  generalize w.heap.size = g at *
  refine (lzparse_any H hs).mono ?_
  rintro e w2 ⟨v, rfl, H2⟩
  rw [hT.out] at H2
  clear H
  obtain ⟨a, c, rfl, -⟩ := H2.rd.shape
  have hb := block_any (l := T) 2 true (fun w' h => h.rd) HOK.out (by omega) H2.swap (by simp; omega)
  rw [List.nil_append] at hb
  have HB := Lib.hid hb
  clear hb
  obtain ⟨N, hN⟩ : ∃ N, Hid (T.length = N) := ⟨_, rfl⟩
  rw [hN.out] at HB ⊢
  go_wp2_with fail
  refine HB.out.mono ?_
  rintro e w3 ⟨_, rfl, H3⟩
  clear H2
  go_wp2_with fail
  refine (bytes_any H3).mono ?_
  rintro e w4 ⟨rfl, rfl⟩
  go_wp2_with fail
  go_ret
  exact ⟨_, rfl, rfl, H3.bare⟩
/-- The shorter of two texts. -/
def shorter (a b : ByteArray) : ByteArray := if b.size < a.size then b else a
def packF (s : ByteArray) : ByteArray := shorter (shorter (textOf (storeF s)) (simpleF s)) (richF s)
set_option maxRecDepth 100000 in
set_option maxHeartbeats 1600000 in
theorem pack_any {w : World} (s : ByteArray) (hs : s.size ≤ 1000000) :
    Calls Try.prog 18 #[.string s] w (Ret fun r w' => r = .string (packF s) ∧ Own w w' []) := by
  have H := Own.start w
  obtain ⟨A, hA⟩ : ∃ A, Hid (textOf (storeF s) = A) := ⟨_, Lib.hid rfl⟩
  obtain ⟨B, hB⟩ : ∃ B, Hid (simpleF s = B) := ⟨_, Lib.hid rfl⟩
  obtain ⟨C, hC⟩ : ∃ C, Hid (richF s = C) := ⟨_, Lib.hid rfl⟩
  obtain ⟨R, hR⟩ : ∃ R, Hid (shorter (shorter A B) C = R) := ⟨_, Lib.hid rfl⟩
  have hP : packF s = R := by unfold packF; rw [hA.out, hB.out, hC.out, hR.out]
  rw [hP]
  have k1 := fun w => store_any (w := w) s hs
  have k2 := fun w => simple_any (w := w) s hs
  have k3 := fun w => richT_any (w := w) s hs
  rw [hA.out] at k1
  rw [hB.out] at k2
  rw [hC.out] at k3
  have K1 := Lib.hid k1
  have K2 := Lib.hid k2
  have K3 := Lib.hid k3
  clear k1 k2 k3 hP hA hB hC
  go_enter Try.func18, Try.ntmps18
  go_wp2_with fail
  refine (K1.out _).mono ?_
  rintro e w1 ⟨_, rfl, rfl, J⟩
  replace H := H.join J
  clear J
  go_wp2_with fail
  refine (K2.out _).mono ?_
  rintro e w2 ⟨_, rfl, rfl, J⟩
  replace H := H.join J
  clear J
  go_wp2_with fail
  refine (K3.out _).mono ?_
  rintro e w3 ⟨_, rfl, rfl, J⟩
  replace H := H.join J
  clear J K1 K2 K3
  go_upto_region 3 with (fail)
  have h9 := H.alloc (.cells #[.string B, .string C] 9)
  have H : Own w (w3.alloc (.cells #[.string B, .string C] 9)) (blk w3.heap.size (.cells #[.string B, .string C] 9) :: []) := h9
  clear h9
  generalize w3.alloc _ = w4 at *
  generalize w3.heap.size = g at *
  go_loopw [3, 14] (fun s3 s14 wx => ∃ (k : Nat) (X : ByteArray), s14 = .int .i64 k ∧ s3 = .string X ∧ (k = 0 ∧ Hid (X = A) ∨ k = 1 ∧ Hid (X = shorter A B) ∨ k = 2 ∧ Hid (X = R)) ∧ Own w wx (blk g (.cells #[.string B, .string C] 9) :: [])) (fun _ s14 _ => 2 - (intOf s14).toNat)
  case atStart => exact ⟨0, A, by go_num, rfl, .inl ⟨rfl, Lib.hid rfl⟩, H⟩
  case round =>
    clear H
    obtain ⟨k, X, rfl, rfl, hc, H⟩ := hrel
    rcases hc with ⟨rfl, hX⟩ | ⟨rfl, hX⟩ | ⟨rfl, hX⟩
    · have c0 := H.cells
      have hs1 : Hid (shorter X B = shorter A B) := Lib.hid (by rw [hX.out])
      by_cases hlt : B.size < X.size
      · have hI : (B.size : Int) < (X.size : Int) := by omega
        have hn : Hid (B = shorter A B) := Lib.hid (by rw [← hs1.out]; unfold shorter; rw [if_pos hlt])
        go_wp2_with fail
        go_roundw
        case rel => exact ⟨1, B, by go_num, rfl, .inr (.inl ⟨rfl, hn⟩), H⟩
        case measure => simp [intOf]
      · have hI : ¬ (B.size : Int) < (X.size : Int) := by omega
        have hn : Hid (X = shorter A B) := Lib.hid (by rw [← hs1.out]; unfold shorter; rw [if_neg hlt])
        go_wp2_with fail
        go_roundw
        case rel => exact ⟨1, X, by go_num, rfl, .inr (.inl ⟨rfl, hn⟩), H⟩
        case measure => simp [intOf]
    · have c0 := H.cells
      have hs1 : Hid (shorter X C = R) := Lib.hid (by rw [hX.out, hR.out])
      by_cases hlt : C.size < X.size
      · have hI : (C.size : Int) < (X.size : Int) := by omega
        have hn : Hid (C = R) := Lib.hid (by rw [← hs1.out]; unfold shorter; rw [if_pos hlt])
        go_wp2_with fail
        go_roundw
        case rel => exact ⟨2, C, by go_num, rfl, .inr (.inr ⟨rfl, hn⟩), H⟩
        case measure => simp [intOf]
      · have hI : ¬ (C.size : Int) < (X.size : Int) := by omega
        have hn : Hid (X = R) := Lib.hid (by rw [← hs1.out]; unfold shorter; rw [if_neg hlt])
        go_wp2_with fail
        go_roundw
        case rel => exact ⟨2, X, by go_num, rfl, .inr (.inr ⟨rfl, hn⟩), H⟩
        case measure => simp [intOf]
    · rw [hX.out] at *
      clear hX
      go_wp2_with fail
      go_ret
      exact ⟨_, rfl, rfl, H.bare⟩
end Go.Proofs.Ytpbodonmiepilaa
/- inflate: what is packed in each way is unpacked; the examples; plainly. No program in sight. -/
namespace Go.Proofs.Ytpbodonmiepilaa

/-- Bits that are unpacked as these bytes. -/
def Unp (bits : List Bool) (most : Int) (res : List Int) : Prop := ∀ bs r, At bs 0 (bits ++ r) → Steps bs most Inf.init ⟨bits.length, res, none, true⟩
theorem unp_block (s : ByteArray) (kind : Int) (h : s.size ≤ 1000000) : Unp (blockB (parse s) kind true) s.size (bnum s s.size) := by
  intro bs r ha
  have hb := block_steps (most := s.size) (parse_ok s) (by have := parse_len s; omega) (by omega) (exp_parse h) (by simp) ha
  simpa [Inf.init] using hb.1
theorem bnum_nums (s : ByteArray) : bnum s s.size = byteNums s := by
  refine List.ext_getElem? fun i => ?_
  rcases Nat.lt_or_ge i s.size with h | h
  · rw [bnum_get h]
    unfold byteNums byt
    rw [List.getElem?_map, Array.getElem?_toList, Array.getElem?_eq_getElem (show i < s.data.size from h)]
    simp only [Array.getD, Option.map_some]
    rw [dif_pos (show i < s.data.size from h)]
    rfl
  · rw [List.getElem?_eq_none (by rw [bnum_length]; exact h), List.getElem?_eq_none (by rw [byteNums_length]; exact h)]
theorem unp_store (s : ByteArray) (h : s.size ≤ 65535) : Unp (storeF s) s.size (byteNums s) := by
  intro bs r ha
  have e : storeF s = storedB true s 0 := by
    unfold storeF
    rw [storeB, if_pos h]
    unfold storedB aligned
    simp [headB, bitsOf_length]
  rw [e] at ha ⊢
  have hb := (stored_steps (most := s.size) (out := []) h (by simp) ha).1
  simpa [Inf.init] using hb
theorem blockB_size {l : List Tok} (hl : ∀ t ∈ l, TokOk t) (hn : l.length ≤ 1000000) (kind : Int) (last : Bool) : (blockB l kind last).length ≤ 48 * l.length + 15000 := by
  by_cases hk : kind = 1
  · subst hk
    have := blockB_le hl last
    omega
  · unfold blockB
    rw [if_neg hk]
    unfold richB sizesB
    have h1 := bodyB_le (richL_made hl hn).all (richD_made hl hn).all hl
    have hok := richR_ok hl hn
    have hrl := richR_len hl hn
    have m7 := runL_made hok (by omega)
    have h2 := flat_le (f := runB (runL (richR l))) (b := 22) (richR l) (fun r hr => by
      have h3 := cbits_le m7.all r.sym.toNat
      have h4 := (hok r hr).n
      unfold runB
      rw [List.length_append, bitsOf_length]
      omega)
    have h5 : (sortedF (runL (richR l))).length ≤ 19 := by
      unfold sortedF
      rw [trimF_len]
      have := trimK_le' (ordF.map fun s => (runL (richR l)).getD s 0) 4 (ordF.map fun s => (runL (richR l)).getD s 0).length
      rw [List.length_map] at this ⊢
      have h6 : ordF.length = 19 := rfl
      omega
    have h7 := flat_le (f := fun n => bitsOf n 3) (b := 3) (sortedF (runL (richR l))) (fun r _ => by rw [bitsOf_length]; exact Nat.le_refl _)
    unfold lensB runsB
    simp only [headB, List.length_append, List.length_cons, bitsOf_length]
    omega
/-- A text that is packed in one of the four ways. -/
def Packed (s p : ByteArray) : Prop := ∃ bits, p = textOf bits ∧ Unp bits s.size (byteNums s) ∧ bits.length ≤ 48 * s.size + 20000
theorem packed_store {s : ByteArray} (h : s.size ≤ 65535) : Packed s (textOf (storeF s)) := ⟨_, rfl, unp_store s h, by
  unfold storeF
  rw [storeB, if_pos h]
  simp only [List.length_append, bitsOf_length, textBits_length]
  unfold aligned
  simp [headB, bitsOf_length, padN]
  omega⟩
theorem packed_simple {s : ByteArray} (h : s.size ≤ 65535) : Packed s (simpleF s) := ⟨_, rfl, by rw [← bnum_nums]; exact unp_block s 1 (by omega), by have := blockB_size (parse_ok s) (by have := parse_len s; omega) 1 true; have := parse_len s; omega⟩
theorem packed_rich {s : ByteArray} (h : s.size ≤ 65535) : Packed s (richF s) := ⟨_, rfl, by rw [← bnum_nums]; exact unp_block s 2 (by omega), by have := blockB_size (parse_ok s) (by have := parse_len s; omega) 2 true; have := parse_len s; omega⟩
theorem packed_shorter {s a b : ByteArray} (ha : Packed s a) (hb : Packed s b) : Packed s (shorter a b) := by
  unfold shorter
  split
  · exact hb
  · exact ha
theorem packed_pack {s : ByteArray} (h : s.size ≤ 65535) : Packed s (packF s) := by
  unfold packF
  exact packed_shorter (packed_shorter (packed_store h) (packed_simple h)) (packed_rich h)
theorem strOf_nums (s : ByteArray) : strOfNums (byteNums s) = s := by rw [← bnum_nums, bnum_all]
theorem packed_size {s p : ByteArray} (hp : Packed s p) : p.size ≤ 6 * s.size + 3000 := by
  obtain ⟨bits, rfl, -, h⟩ := hp
  rw [textOf_size]
  unfold nbytes
  omega
theorem packed_back {s p behind t : ByteArray} {u e : Int} (hp : Packed s p) (h : InfRes (textBits (p ++ behind)) s.size t u e) : t = s ∧ u = p.size ∧ e = 0 := by
  obtain ⟨bits, rfl, hu, -⟩ := hp
  unfold InfRes at h
  rw [infl_text rfl hu] at h
  obtain ⟨h1, h2, h3⟩ := h
  rw [strOf_nums] at h1
  exact ⟨h1, by rw [h2, textOf_size], h3⟩
theorem byteNums_size (s : ByteArray) : (byteNums s).length = s.size := byteNums_length s
theorem packed_limit {s p t : ByteArray} {most u e : Int} (hp : Packed s p) (h0 : 0 ≤ most) (h1 : most < s.size) (h : InfRes (textBits p) most t u e) : t = ByteArray.empty ∧ u = 0 ∧ e = 12 := by
  obtain ⟨bits, rfl, hu, -⟩ := hp
  unfold InfRes at h
  rw [infl_lim rfl h0 (by rw [byteNums_size]; exact h1) hu] at h
  exact h
theorem packed_cut {s p t : ByteArray} {k : Nat} {u e : Int} (hp : Packed s p) (hk : k < p.size) (h : InfRes (textBits (p.extract 0 k)) s.size t u e) : t = ByteArray.empty ∧ u = 0 ∧ e = 2 := by
  obtain ⟨bits, rfl, hu, -⟩ := hp
  unfold InfRes at h
  rw [infl_cut rfl hk hu] at h
  exact h

/-! ### the examples -/
def finB : Fin' → List Int → Nat → Bool
  | .ok o n, o', n' => decide (o = o') && decide (n = n')
  | _, _, _ => false
def finE : Fin' → Int → Bool
  | .err e, e' => decide (e = e')
  | _, _ => false
theorem finB_eq {f : Fin'} {o : List Int} {n : Nat} (h : finB f o n = true) : f = .ok o n := by
  cases f <;> simp [finB] at h
  obtain ⟨rfl, rfl⟩ := h; rfl
theorem finE_eq {f : Fin'} {e : Int} (h : finE f e = true) : f = .err e := by
  cases f <;> simp [finE] at h
  subst h; rfl
set_option maxRecDepth 100000 in
theorem ex_a : inflF (textBits ⟨#[0x4b, 4, 0]⟩) 9 = .ok [97] 18 := finB_eq (by decide +kernel)
set_option maxRecDepth 100000 in
theorem ex_b : inflF (textBits ⟨#[0x4b, 4]⟩) 9 = .err 2 := finE_eq (by decide +kernel)
set_option maxRecDepth 100000 in
theorem ex_c : inflF (textBits ⟨#[0x4b, 4, 0]⟩) 0 = .err 12 := finE_eq (by decide +kernel)
set_option maxRecDepth 100000 in
theorem exr_a {t : ByteArray} {u e : Int} (h : InfRes (textBits ⟨#[0x4b, 4, 0]⟩) 9 t u e) : t = ⟨#[97]⟩ ∧ u = 3 ∧ e = 0 := by
  unfold InfRes at h
  rw [ex_a] at h
  exact h
set_option maxRecDepth 100000 in
theorem exr_b {t : ByteArray} {u e : Int} (h : InfRes (textBits ⟨#[0x4b, 4]⟩) 9 t u e) : e = 2 := by
  unfold InfRes at h
  rw [ex_b] at h
  exact h.2.2
set_option maxRecDepth 100000 in
theorem exr_c {t : ByteArray} {u e : Int} (h : InfRes (textBits ⟨#[0x4b, 4, 0]⟩) 0 t u e) : e = 12 := by
  unfold InfRes at h
  rw [ex_c] at h
  exact h.2.2
end Go.Proofs.Ytpbodonmiepilaa
/- inflate: tokens in several blocks, plainly; slices of tokens. -/
namespace Go.Proofs.Ytpbodonmiepilaa
open Go.RowKit

theorem exp_split {most : Int} : ∀ (a b : List Tok) (out r : List Int), exp most (a ++ b) out = .ok r → ∃ m, exp most a out = .ok m ∧ exp most b m = .ok r := by
  intro a
  induction a with
  | nil => intro b out r h; exact ⟨out, rfl, h⟩
  | cons t l ih =>
    intro b out r h
    rw [List.cons_append, exp] at h
    rw [exp]
    by_cases h1 : may t out.length = false
    · rw [if_pos h1] at h; cases h
    · rw [if_neg h1] at h ⊢
      by_cases h2 : IntKind.i64.wrap (most - out.length) < max t.len 1
      · rw [if_pos h2] at h; cases h
      · rw [if_neg h2] at h ⊢
        by_cases h3 : t.len = 0
        · rw [if_pos h3] at h ⊢; exact ih _ _ _ h
        · rw [if_neg h3] at h ⊢; exact ih _ _ _ h

/-- Bits that are unpacked as a beginning of the tokens' text, and do not end there. -/
def Pre (most : Int) (l : List Tok) (k : Nat) (bits : List Bool) : Prop :=
  ∃ res, exp most (l.take k) [] = .ok res ∧ (res.length : Int) ≤ most ∧ ∀ bs r, At bs 0 (bits ++ r) → Steps bs most Inf.init ⟨bits.length, res, none, false⟩ ∧ At bs bits.length r
theorem pre_nil {most : Int} {l : List Tok} (h0 : 0 ≤ most) : Pre most l 0 [] := ⟨[], rfl, by simpa using h0, fun bs r h => ⟨.refl _, by simpa using h⟩⟩
theorem pre_cut {most : Int} {l : List Tok} {k m : Nat} {fin res : List Int} (he : exp most l [] = .ok fin) (hk : exp most (l.take k) [] = .ok res) (hkm : k ≤ m) :
    ∃ r2, exp most (l.take m) [] = .ok r2 ∧ exp most ((l.take m).drop k) res = .ok r2 := by
  obtain ⟨r2, h1, -⟩ := exp_split (l.take m) (l.drop m) [] fin (by rw [List.take_append_drop]; exact he)
  have h2 : l.take m = l.take k ++ (l.take m).drop k := by
    conv => lhs; rw [← List.take_append_drop k (l.take m)]
    rw [List.take_take, Nat.min_eq_left hkm]
  obtain ⟨m1, h3, h4⟩ := exp_split (l.take k) ((l.take m).drop k) [] r2 (by rw [← h2]; exact h1)
  rw [hk] at h3
  cases h3
  exact ⟨r2, h1, h4⟩
theorem pre_block {most : Int} {l : List Tok} {k m : Nat} {bits : List Bool} {fin : List Int} (kind : Int) (hl : ∀ t ∈ l, TokOk t) (hn : l.length ≤ 1000000) (hm : most ≤ 1000000) (he : exp most l [] = .ok fin) (h : Pre most l k bits) (hkm : k ≤ m) :
    Pre most l m (bits ++ blockB ((l.take m).drop k) kind false) := by
  obtain ⟨res, h1, h2, h3⟩ := h
  obtain ⟨r2, h4, h5⟩ := pre_cut he h1 hkm
  have hlen : ((l.take m).drop k).length ≤ 1000000 := by rw [List.length_drop, List.length_take]; omega
  have hl' : ∀ t ∈ (l.take m).drop k, TokOk t := fun t ht => hl t (List.mem_of_mem_take (List.mem_of_mem_drop ht))
  have hle : (r2.length : Int) ≤ most := by
    have ha := h3 (bits ++ (blockB ((l.take m).drop k) kind false ++ [])) (blockB ((l.take m).drop k) kind false ++ []) ⟨Nat.zero_le _, rfl⟩
    exact (block_steps hl' hlen (by omega) h5 h2 ha.2).2.2
  refine ⟨r2, h4, hle, fun bs r ha => ?_⟩
  rw [List.append_assoc] at ha
  obtain ⟨h6, h7⟩ := h3 bs _ ha
  obtain ⟨h8, h9, -⟩ := block_steps hl' hlen (by omega) h5 h2 h7
  rw [List.length_append]
  exact ⟨h6.trans h8, h9⟩
theorem pre_last {most : Int} {l : List Tok} {k : Nat} {bits : List Bool} {fin : List Int} (kind : Int) (hl : ∀ t ∈ l, TokOk t) (hn : l.length ≤ 1000000) (hm : most ≤ 1000000) (he : exp most l [] = .ok fin) (h : Pre most l k bits) :
    Unp (bits ++ blockB (l.drop k) kind true) most fin := by
  obtain ⟨res, h1, h2, h3⟩ := h
  obtain ⟨m1, h4, h5⟩ := exp_split (l.take k) (l.drop k) [] fin (by rw [List.take_append_drop]; exact he)
  rw [h1] at h4
  cases h4
  intro bs r ha
  rw [List.append_assoc] at ha
  obtain ⟨h6, h7⟩ := h3 bs _ ha
  obtain ⟨h8, -, -⟩ := block_steps (fun t ht => hl t (List.mem_of_mem_drop ht)) (by rw [List.length_drop]; omega) (by omega) h5 h2 h7
  rw [List.length_append]
  exact h6.trans h8
/-- A slice of what is read. -/
theorem Rd.sliced {w : World} {size n k m c : Nat} {a : Option Addr} {xs : List Value} (h : Rd w size (.slice a n c) n xs) (hk : k ≤ m) (hm : m ≤ n) :
    Rd w size (sliced a k m c size) (m - k) ((xs.take (m * size)).drop (k * size)) := by
  have h1 := h.take hm
  cases a with
  | none =>
    obtain ⟨hl, a, c', e, h1, h2, h3, h4⟩ := h
    cases e
    obtain ⟨rfl, rfl⟩ := h3 rfl
    obtain rfl : m = 0 := by omega
    obtain rfl : k = 0 := by omega
    obtain rfl : xs = [] := List.eq_nil_of_length_eq_zero (by simpa using hl)
    simpa [_root_.Go.sliced] using Rd.nil w size
  | some ad =>
    have h2 := h1.tail hk
    unfold _root_.Go.sliced
    by_cases hc : c = k
    · obtain ⟨hl, a, c', e, h1, h2, h3, h4⟩ := h
      cases e
      obtain rfl : m = k := by omega
      rw [if_pos hc, Nat.sub_self, List.drop_eq_nil_of_le (by rw [List.length_take]; omega)]
      exact ⟨by simp, _, _, rfl, by omega, by omega, by simp, fun ad _ j u hu => by simp at hu⟩
    · rw [if_neg hc]
      exact h2
theorem Reads.sliced {w0 : World} {ps : List Piece} {n k m c : Nat} {a : Option Addr} {l : List Tok} (h : Reads w0 ps 3 (.slice a n c) n (rows tcell l)) (hk : k ≤ m) (hm : m ≤ n) :
    Reads w0 ps 3 (sliced a k m c 3) (m - k) (rows tcell ((l.take m).drop k)) := fun w' h' => by
  have := (h w' h').sliced hk hm
  rw [rows_take tcell tcell_length, rows_drop tcell tcell_length] at this
  exact this
theorem wpList_slice_from {P : Program} {ops : Array Oper} {rest : List Oper} {o : Oper} {a : Act} {w : World} {Q : Exit → Act → World → Prop} (hgd : o.guard = none) {ty : TypeId} (x lo : Operand) (ho : o.op = .slice ty x (some lo) none none)
    (ht : P.underlying ty = some (.slice (P.elem ty))) {size : Nat} (hsz : ∀ w, (sizeOf (P.elem ty)).run P w = .ok size w) {ad : Option Addr} {n c k : Nat} (hx : a.eval x = .slice ad n c) (hlo : a.eval lo = .int .i64 k) (hk : k ≤ n) {tv : Value} (hv : Hid (sliced ad k n c size = tv))
    (h : wpList P ops Q rest (a.put o.dst tv) w) : wpList P ops Q (o :: rest) a w := by
  refine wpList_plain hgd fun K hK => ?_
  have hr := run_slice_l (P := P) (w := w) ty ad n c ht .i64 (k : Int) (by omega) (by omega)
  rw [hsz, Result.andThen_ok, Int.toNat_natCast, hv.out] at hr
  unfold Oper.wp execOp
  simp only [ho, Sem.run_bind, Sem.run_pure, hx, hlo, Option.map_some, Option.map_none]
  rw [run_sliceAt_slice w ty _ _ _ _ ht, hr, Result.andThen_ok]
  exact hK _ _ h
/-- What is packed, in however many bits. -/
def Packed2 (s p : ByteArray) : Prop := ∃ Bs, p = textOf Bs ∧ Unp Bs s.size (byteNums s)
theorem packed2_back {s p t : ByteArray} {u e : Int} (hp : Packed2 s p) (h : InfRes (textBits p) s.size t u e) : t = s ∧ u = p.size ∧ e = 0 := by
  obtain ⟨bits, rfl, hu⟩ := hp
  have hi := infl_text (behind := ByteArray.empty) rfl hu
  rw [ByteArray.append_empty] at hi
  unfold InfRes at h
  rw [hi] at h
  obtain ⟨h1, h2, h3⟩ := h
  rw [strOf_nums] at h1
  exact ⟨h1, by rw [h2, textOf_size], h3⟩
end Go.Proofs.Ytpbodonmiepilaa
/- split: tokens in blocks up to cuts, plainly. No program in sight. -/
namespace Go.Proofs.Ytpbodonmiepilaa
open Go.RowKit

/-- A limit that is just enough. -/
theorem exp_tight {m M : Int} (hm : m ≤ 4611686018427387904) (hM : M ≤ 4611686018427387904) : ∀ (l : List Tok) (x r : List Int), exp m l x = .ok r → (x.length : Int) ≤ m → (r.length : Int) ≤ M → exp M l x = .ok r ∧ x.length ≤ r.length ∧ r.length ≤ x.length + 258 * l.length ∧ ∀ t ∈ l, TokOk t := by
  intro l
  induction l with
  | nil => intro x r h hx hr; cases h; exact ⟨rfl, Nat.le_refl _, by simp, fun t h => by cases h⟩
  | cons t l ih =>
    intro x r h hx hr
    rw [exp] at h ⊢
    by_cases hy : may t x.length = false
    · rw [if_pos hy] at h; cases h
    rw [if_neg hy] at h ⊢
    have hmt : may t x.length = true := by simpa using hy
    have hok := may_ok hmt
    have w1 : IntKind.i64.wrap (m - (x.length : Int)) = m - x.length := IntWalk.i64_in _ ⟨by omega, by omega⟩
    rw [w1] at h
    by_cases hl : m - (x.length : Int) < max t.len 1
    · rw [if_pos hl] at h; cases h
    rw [if_neg hl] at h
    by_cases h0 : t.len = 0
    · rw [if_pos h0] at h ⊢
      obtain ⟨h1, h2, h3, h4⟩ := ih _ _ h (by rw [List.length_append]; simp; omega) hr
      rw [List.length_append] at h2 h3
      simp only [List.length_cons, List.length_nil] at h2 h3
      have w2 : IntKind.i64.wrap (M - (x.length : Int)) = M - x.length := IntWalk.i64_in _ ⟨by omega, by omega⟩
      rw [w2, if_neg (by omega), h1]
      exact ⟨rfl, by omega, by rw [List.length_cons]; omega, fun t' ht' => by rcases List.mem_cons.1 ht' with rfl | h'; exact hok; exact h4 t' h'⟩
    · rw [if_neg h0] at h ⊢
      have h3l : 3 ≤ t.len ∧ t.len ≤ 258 := by rcases hok with h' | h' <;> omega
      obtain ⟨h1, h2, h3, h4⟩ := ih _ _ h (by rw [copyN_length]; omega) hr
      rw [copyN_length] at h2 h3
      have w2 : IntKind.i64.wrap (M - (x.length : Int)) = M - x.length := IntWalk.i64_in _ ⟨by omega, by omega⟩
      rw [w2, if_neg (by omega), h1]
      exact ⟨rfl, by omega, by rw [List.length_cons]; omega, fun t' ht' => by rcases List.mem_cons.1 ht' with rfl | h'; exact hok; exact h4 t' h'⟩
theorem exp_len {m : Int} : ∀ (l : List Tok) (x r : List Int), exp m l x = .ok r → r.length ≤ x.length + 258 * l.length ∧ ∀ t ∈ l, TokOk t := by
  intro l
  induction l with
  | nil => intro x r h; cases h; exact ⟨by simp, fun t h => by cases h⟩
  | cons t l ih =>
    intro x r h
    rw [exp] at h
    by_cases hy : may t x.length = false
    · rw [if_pos hy] at h; cases h
    rw [if_neg hy] at h
    have hok := may_ok (show may t x.length = true by simpa using hy)
    split at h
    · cases h
    by_cases h0 : t.len = 0
    · rw [if_pos h0] at h
      obtain ⟨h1, h2⟩ := ih _ _ h
      rw [List.length_append] at h1
      simp only [List.length_cons, List.length_nil] at h1
      exact ⟨by rw [List.length_cons]; omega, fun t' ht' => by rcases List.mem_cons.1 ht' with rfl | h'; exact hok; exact h2 t' h'⟩
    · rw [if_neg h0] at h
      have h3l : 3 ≤ t.len ∧ t.len ≤ 258 := by rcases hok with h' | h' <;> omega
      obtain ⟨h1, h2⟩ := ih _ _ h
      rw [copyN_length] at h1
      exact ⟨by rw [List.length_cons]; omega, fun t' ht' => by rcases List.mem_cons.1 ht' with rfl | h'; exact hok; exact h2 t' h'⟩
theorem exp_err2 {m : Int} : ∀ (l : List Tok) (x : List Int) (e : Nat), exp m l x = .err e → e = 2 ∨ e = 12 := by
  intro l
  induction l with
  | nil => intro x e h; cases h
  | cons t l ih =>
    intro x e h
    rw [exp] at h
    split at h
    · cases h; exact .inl rfl
    split at h
    · cases h; exact .inr rfl
    split at h
    · exact ih _ _ h
    · exact ih _ _ h
/-- What is amiss with a cut and a kind. -/
def wbad (N : Nat) (fr c k : Int) : Bool := decide (c < fr) || decide ((N : Int) < c) || decide (k < 1) || decide (2 < k)
/-- The bits of blocks up to each cut, or nothing. -/
def wloop (T : List Tok) : List (Int × Int) → Nat → List Bool → Option (List Bool)
  | [], _, bs => some bs
  | (c, k) :: r, fr, bs => if wbad T.length fr c k then none else wloop T r c.toNat (bs ++ blockB ((T.take c.toNat).drop fr) k r.isEmpty)
def wfalls (N : Nat) : List (Int × Int) → Int → Bool
  | [], _ => false
  | (c, k) :: r, fr => wbad N fr c k || wfalls N r c
theorem wloop_falls (T : List Tok) : ∀ (l : List (Int × Int)) (fr : Nat) (bs : List Bool), (wloop T l fr bs).isNone = wfalls T.length l fr := by
  intro l
  induction l with
  | nil => intro fr bs; rfl
  | cons p r ih =>
    obtain ⟨c, k⟩ := p
    intro fr bs
    rw [wloop, wfalls]
    by_cases h : wbad T.length fr c k = true
    · rw [if_pos h, h]; rfl
    · rw [if_neg h, ih]
      have h' : wbad T.length fr c k = false := by simpa using h
      rw [h']
      have hc : ¬ c < fr := fun hh => by unfold wbad at h'; rw [decide_eq_true hh] at h'; simp at h'
      rw [Int.toNat_of_nonneg (by omega)]
      rfl
theorem wbad_no {N : Nat} {fr c k : Int} (h : wbad N fr c k = false) : fr ≤ c ∧ c ≤ N ∧ 1 ≤ k ∧ k ≤ 2 := by
  unfold wbad at h
  simp only [Bool.or_eq_false_iff, decide_eq_false_iff_not] at h
  omega
/-- What is packed so is unpacked. -/
theorem wloop_unp {most : Int} {T : List Tok} {fin : List Int} (hl : ∀ t ∈ T, TokOk t) (hn : T.length ≤ 1000000) (hm : most ≤ 1000000) (he : exp most T [] = .ok fin) :
    ∀ (l : List (Int × Int)) (fr : Nat) (bs R : List Bool), fr ≤ T.length → l ≠ [] → (∀ p, l.getLast? = some p → p.1 = T.length) → Pre most T fr bs → wloop T l fr bs = some R →
      Unp R most fin ∧ R.length ≤ bs.length + l.length * (48 * T.length + 15000) := by
  intro l
  induction l with
  | nil => intro fr bs R _ h; exact absurd rfl h
  | cons p r ih =>
    obtain ⟨c, k⟩ := p
    intro fr bs R hfr _ hlast hpre hw
    rw [wloop] at hw
    by_cases h : wbad T.length fr c k = true
    · rw [if_pos h] at hw; cases hw
    rw [if_neg h] at hw
    obtain ⟨h1, h2, h3, h4⟩ := wbad_no (by simpa using h)
    obtain ⟨c, rfl⟩ : ∃ n : Nat, c = n := ⟨c.toNat, by omega⟩
    rw [Int.toNat_natCast] at hw
    have hbl : ((T.take c).drop fr).length ≤ T.length := by rw [List.length_drop, List.length_take]; omega
    have hsz := blockB_size (l := (T.take c).drop fr) (fun t ht => hl t (List.mem_of_mem_take (List.mem_of_mem_drop ht))) (by omega) k
    cases r with
    | nil =>
      rw [wloop] at hw
      cases hw
      have hcT : c = T.length := by have := hlast _ rfl; simp at this; omega
      have hd : (T.take c).drop fr = T.drop fr := by rw [hcT, List.take_length]
      refine ⟨?_, ?_⟩
      · rw [hd]; exact pre_last k hl hn hm he hpre
      · have := hsz true
        rw [List.length_append]
        simp only [List.isEmpty_nil, List.length_cons, List.length_nil]
        omega
    | cons p2 r2 =>
      have hp2 := pre_block k hl hn hm he hpre (show fr ≤ c by omega)
      obtain ⟨h5, h6⟩ := ih c _ R (by omega) (by simp) (fun p hp => hlast p (by rw [List.getLast?_cons_cons]; exact hp)) hp2 hw
      refine ⟨h5, ?_⟩
      have := hsz false
      rw [List.length_append] at h6
      rw [List.length_cons, Nat.add_mul]
      omega
end Go.Proofs.Ytpbodonmiepilaa
/- Bits: Writer.Len. -/
namespace Go.Proofs.Ytpbodonmiepilaa
open Go.RowKit

theorem len_any {w0 w : World} {ps : List Piece} {g : Nat} {bs : List Bool} (H : Own w0 w (Wtr g bs :: ps)) :
    Calls Try.prog 25 #[.pointer (some ⟨g, 0, none⟩)] w fun e w' => e = .returned (.int .i64 bs.length) ∧ w' = w := by
  obtain ⟨m, hm⟩ : ∃ m, Hid (bs.length = m) := ⟨_, rfl⟩
  obtain ⟨a, cp, hc1, hc2, H⟩ := H.wtr
  rw [hm.out] at H ⊢
  have c0 := H.cells
  go_enter Try.func25, Try.ntmps25
  go_wp2
  go_ret
  exact ⟨rfl, rfl⟩
end Go.Proofs.Ytpbodonmiepilaa
/- split: the walks of cost, Reverse. -/
namespace Go.Proofs.Ytpbodonmiepilaa
open Go.RowKit

/-- How many bits a block has, of the shorter kind; and that kind. -/
def cstF (Q : List Tok) : Nat := if (blockB Q 1 false).length ≤ (blockB Q 2 false).length then (blockB Q 1 false).length else (blockB Q 2 false).length
def kdF (Q : List Tok) : Int := if (blockB Q 1 false).length ≤ (blockB Q 2 false).length then 1 else 2
theorem blockB_last (Q : List Tok) (k : Int) (b : Bool) : (blockB Q k b).length = (blockB Q k false).length := by
  unfold blockB
  split
  · rw [List.length_append, List.length_append]; rfl
  · rw [List.length_append, List.length_append]; rfl
theorem cst_kd (Q : List Tok) : (blockB Q (kdF Q) false).length = cstF Q ∧ (kdF Q = 1 ∨ kdF Q = 2) := by
  unfold cstF kdF
  split
  · exact ⟨rfl, .inl rfl⟩
  · exact ⟨rfl, .inr rfl⟩
theorem cst_le (Q : List Tok) {k : Int} (hk : k = 1 ∨ k = 2) : cstF Q ≤ (blockB Q k false).length := by
  unfold cstF
  rcases hk with rfl | rfl <;> split <;> omega
theorem cst_pos (Q : List Tok) : 3 ≤ cstF Q := by
  have h : ∀ k, 3 ≤ (blockB Q k false).length := fun k => by
    unfold blockB headB
    split <;> simp [bitsOf_length] <;> omega
  unfold cstF
  split
  · exact h 1
  · exact h 2
set_option maxRecDepth 100000 in
set_option maxHeartbeats 1600000 in
theorem cost_any {w : World} {tv : Value} {Q : List Tok} (ht : Rd w 3 tv Q.length (rows tcell Q)) (hok : ∀ t ∈ Q, TokOk t) (hQ : Q.length ≤ 3000) :
    Calls Try.prog 22 #[tv] w (Ret fun r w' => r = .tuple #[.int .i64 (cstF Q), .int .i64 (kdF Q)] ∧ Own w w' []) := by
  have HR : Hid (∀ ps : List Piece, Reads w ps 3 tv Q.length (rows tcell Q)) := Lib.hid fun ps w' h => ht.old h
  obtain ⟨ta, tc, rfl, -⟩ := ht.shape
  have k1 := fun (w1 : World) (ps : List Piece) (g : Nat) (kd : Int) (h : Own w w1 (Wtr g [] :: ps)) => block_any (l := Q) kd false (HR.out ps) hok (by omega) h (by simp; omega)
  simp only [List.nil_append] at k1
  obtain ⟨N, hN⟩ : ∃ N, Hid (Q.length = N) := ⟨_, rfl⟩
  rw [hN.out] at k1 ⊢
  have hs1 := blockB_size hok (by omega) 1 false
  have hs2 := blockB_size hok (by omega) 2 false
  rw [hN.out] at hs1 hs2 hQ
  obtain ⟨X1, hX1⟩ : ∃ X, Hid (blockB Q 1 false = X) := ⟨_, rfl⟩
  obtain ⟨X2, hX2⟩ : ∃ X, Hid (blockB Q 2 false = X) := ⟨_, rfl⟩
  have hc : Hid (cstF Q = if X1.length ≤ X2.length then X1.length else X2.length) := Lib.hid (by unfold cstF; rw [hX1.out, hX2.out])
  have hd : Hid (kdF Q = if X1.length ≤ X2.length then 1 else 2) := Lib.hid (by unfold kdF; rw [hX1.out, hX2.out])
  rw [hX1.out] at hs1
  rw [hX2.out] at hs2
  have K1 := Lib.hid k1
  have H := Own.start w
  clear k1 ht
  have H2 := H.newWtr.newWtr
  rw [alloc_heap_size'] at H2
  go_enter Try.func22, Try.ntmps22
  go_upto_region 2 with (fail)
  generalize (w.alloc _).alloc _ = w2 at *
  generalize w.heap.size + 1 = g2 at *
  generalize w.heap.size = g1 at *
  replace H2 : Own w w2 (Wtr g1 [] :: Wtr g2 [] :: []) := H2.swap
  go_wp2_with fail
  refine (K1.out _ _ _ 1 H2).mono ?_
  rintro e w3 ⟨_, rfl, H3⟩
  rw [hX1.out] at H3
  go_wp2_with fail
  refine (K1.out _ _ _ 2 H3.swap).mono ?_
  rintro e w4 ⟨_, rfl, H4⟩
  rw [hX2.out] at H4
  clear H2 H3 K1 H
  have L1 := Lib.hid (len_any H4.swap)
  have L2 := Lib.hid (len_any H4)
  obtain ⟨n1, hn1⟩ : ∃ n, Hid (X1.length = n) := ⟨_, rfl⟩
  obtain ⟨n2, hn2⟩ : ∃ n, Hid (X2.length = n) := ⟨_, rfl⟩
  rw [hn1.out] at L1
  rw [hn2.out] at L2
  rw [hn1.out, hn2.out] at hc hd
  rw [hn1.out] at hs1
  rw [hn2.out] at hs2
  go_wp2_with fail
  refine L1.out.mono ?_
  rintro e w5 ⟨rfl, rfl⟩
  go_wp2_with fail
  refine L2.out.mono ?_
  rintro e w5 ⟨rfl, rfl⟩
  by_cases hle : n1 ≤ n2
  · have hI : (n1 : Int) ≤ (n2 : Int) := by omega
    have hc2 := hc.out
    have hd2 := hd.out
    rw [if_pos hle] at hc2 hd2
    replace hc2 := Lib.hid hc2
    replace hd2 := Lib.hid hd2
    clear hc hd hle
    go_wp2_with fail
    refine L1.out.mono ?_
    rintro e w5 ⟨rfl, rfl⟩
    go_wp2
    go_ret2
    exact ⟨_, rfl, by rw [hc2.out, hd2.out]; rfl, H4.bare⟩
  · have hI : ¬ (n1 : Int) ≤ (n2 : Int) := by omega
    have hc2 := hc.out
    have hd2 := hd.out
    rw [if_neg hle] at hc2 hd2
    replace hc2 := Lib.hid hc2
    replace hd2 := Lib.hid hd2
    clear hc hd hle
    go_wp2_with fail
    refine L2.out.mono ?_
    rintro e w5 ⟨rfl, rfl⟩
    go_wp2
    go_ret2
    exact ⟨_, rfl, by rw [hc2.out, hd2.out]; rfl, H4.bare⟩
end Go.Proofs.Ytpbodonmiepilaa
/- split: the walk of slices.Reverse. -/
namespace Go.Proofs.Ytpbodonmiepilaa
open Go.RowKit

/-- Turned round at both ends, so many. -/
def RevSt (xs L : List Int) (n i : Nat) : Prop := L.length = n ∧ ∀ k, k < n → L.getD k 0 = if k < i ∨ n - 1 - i < k then xs.getD (n - 1 - k) 0 else xs.getD k 0
theorem rev_start (xs : List Int) : RevSt xs xs xs.length 0 := ⟨rfl, fun k hk => by rw [if_neg (by omega)]⟩
theorem getD_set2 {L : List Int} {i k : Nat} {x : Int} (hi : i < L.length) : (L.set i x).getD k 0 = if k = i then x else L.getD k 0 := by
  rw [List.getD_eq_getElem?_getD, List.getD_eq_getElem?_getD, List.getElem?_set]
  by_cases h : i = k
  · subst h; simp [hi]
  · rw [if_neg h, if_neg (fun h' => h h'.symm)]
theorem rev_step {xs L : List Int} {n i j : Nat} (h : RevSt xs L n i) (hij : i < j) (hj : i + j + 1 = n) : RevSt xs ((L.set i (L.getD j 0)).set j (L.getD i 0)) n (i + 1) := by
  obtain ⟨h1, h2⟩ := h
  refine ⟨by rw [List.length_set, List.length_set, h1], fun k hk => ?_⟩
  rw [getD_set2 (by rw [List.length_set]; omega), getD_set2 (by omega)]
  by_cases hk1 : k = j
  · rw [if_pos hk1, if_pos (by omega), h2 i (by omega), if_neg (by omega), show n - 1 - k = i by omega]
  rw [if_neg hk1]
  by_cases hk2 : k = i
  · rw [if_pos hk2, if_pos (by omega), h2 j (by omega), if_neg (by omega), show n - 1 - k = j by omega]
  rw [if_neg hk2, h2 k hk]
  by_cases hk3 : k < i ∨ n - 1 - i < k
  · rw [if_pos hk3, if_pos (by omega)]
  · rw [if_neg hk3, if_neg (by omega)]
theorem rev_end {xs L : List Int} {n i : Nat} (h : RevSt xs L n i) (hx : xs.length = n) (hi : n ≤ 2 * i + 1) : L = xs.reverse := by
  obtain ⟨h1, h2⟩ := h
  refine List.ext_getElem? fun k => ?_
  by_cases hk : k < n
  · have h3 := h2 k hk
    rw [List.getElem?_reverse (by omega)]
    rw [List.getElem?_eq_getElem (by omega), List.getElem?_eq_getElem (by omega)]
    rw [List.getD_eq_getElem?_getD, List.getElem?_eq_getElem (by omega)] at h3
    simp only [Option.getD_some] at h3
    rw [h3]
    congr 1
    split
    · rw [List.getD_eq_getElem?_getD, List.getElem?_eq_getElem (by omega)]
      simp only [Option.getD_some, hx]
    · next hh =>
      rw [List.getD_eq_getElem?_getD, List.getElem?_eq_getElem (by omega)]
      simp only [Option.getD_some, hx]
      congr 1
      omega
  · rw [List.getElem?_eq_none (by omega), List.getElem?_eq_none (by rw [List.length_reverse]; omega)]
set_option maxRecDepth 100000 in
set_option maxHeartbeats 1600000 in
theorem reverse_any {w0 w : World} {ps : List Piece} {v : Value} {n : Nat} {xs : List Int} (hx : xs.length = n) (hn : n ≤ 1000000) (H : Own w0 w (slc 3 1 v n (nums xs) :: ps)) :
    Calls Try.prog 23 #[v] w (Ret fun _ w' => Own w0 w' (slc 3 1 v n (nums xs.reverse) :: ps)) := by
  obtain ⟨a, c, rfl, hc1, hc2⟩ := H.rd.shape
  have hst : Hid (RevSt xs xs n 0) := Lib.hid (by rw [← hx]; exact rev_start xs)
  replace hx := Lib.hid hx
  have hw1 : IntKind.i64.wrap ((n : Int) - 1) = (n : Int) - 1 := IntWalk.i64_in _ ⟨by omega, by omega⟩
  go_enter Try.func23, Try.ntmps23
  go_wp2_with fail
  go_loopw [2, 3] (fun v2 v3 wx => ∃ (i : Nat) (L : List Int), v2 = .int .i64 i ∧ v3 = .int .i64 ((n : Int) - 1 - i) ∧ i ≤ n ∧ Hid (RevSt xs L n i) ∧ Own w0 wx (slc 3 1 (.slice a n c) n (nums L) :: ps)) (fun v2 _ _ => n - (intOf v2).toNat)
  case atStart => exact ⟨0, xs, rfl, by simp, by omega, hst, H⟩
  case round =>
    clear H hst hw1
    obtain ⟨i, L, rfl, rfl, hi, hst, H⟩ := hrel
    by_cases hij : (i : Int) < (n : Int) - 1 - i
    · obtain ⟨j, hj⟩ : ∃ j : Nat, Hid (i + j + 1 = n) := ⟨n - 1 - i, Lib.hid (by omega)⟩
      have hjI : (n : Int) - 1 - i = (j : Int) := by have := hj.out; omega
      rw [hjI] at hij ⊢
      have hijN : i < j := by omega
      have hjn : j < n := by have := hj.out; omega
      have hin : i < n := by omega
      have hjnI : (j : Int) < (n : Int) := by omega
      have hinI : (i : Int) < (n : Int) := by omega
      have hLl : L.length = n := hst.out.1
      obtain ⟨g, c', e0, -, -, -, -, -, -⟩ := H.at (by rw [nums_length, hLl]; omega)
      cases e0
      have hcell : Hid (∀ w', Own w0 w' (slc 3 1 (.slice (some ⟨g, 0, none⟩) n c) n (nums L) :: ps) → w'.cell? ⟨g, i, none⟩ = some (.int .i64 (L.getD i 0)) ∧ w'.cell? ⟨g, j, none⟩ = some (.int .i64 (L.getD j 0))) := Lib.hid fun w' h => by
        obtain ⟨_, _, e1, h1⟩ := rd_at h.rd (Own.start w') hin
        obtain ⟨_, _, e2, h2⟩ := rd_at h.rd (Own.start w') hjn
        cases e1; cases e2
        rw [Nat.zero_add] at h1 h2
        exact ⟨h1, h2⟩
      have hst2 := Lib.hid (rev_step hst.out hijN hj.out)
      generalize L.getD i 0 = x at *
      generalize L.getD j 0 = y at *
      have hwi : IntKind.i64.wrap ((j : Int) - 1) = (j : Int) - 1 := IntWalk.i64_in _ ⟨by omega, by omega⟩
      clear hst
      go_upto_region 3 with (fail)
      refine wp_region_pres (fun _ w1 => Own w0 w1 (slc 3 1 (.slice (some ⟨g, 0, none⟩) n c) n (nums L) :: ps)) 13 [] [2, 3] (by kernel_rfl) (by kernel_rfl) (by kernel_rfl) (by kernel_rfl) (fun _ _ d _ _ h => by cases d <;> exact h) ⟨_, _, rfl, fun w => (by first | rfl | (go_simp; rfl)), _, _, rfl, fun w => (by first | rfl | (go_simp; rfl)), rfl⟩ H.drew ?_
      simp only [List.take_succ_cons, List.take_zero, List.drop_succ_cons, List.drop_zero]
      repeat
        first
        | (refine calm_value (v := ?_) (by decide) rfl (fun σ w1 hS => ?_) ?_
           rotate_left
           · obtain ⟨c0, c1⟩ := hcell.out _ hS
             first | (go_simp; rfl) | rfl
           simp only [Act.put, List.setIfInBounds_toArray, List.set_cons_zero, List.set_cons_succ])
        | (refine calm_skip (by decide) rfl ?_
           simp only [Act.put, List.setIfInBounds_toArray, List.set_cons_zero, List.set_cons_succ])
      refine calm_nil ?_
      intro σ2 wd2 _ HD
      simp only [putNew, List.foldl_nil]
      clear H hcell
      go_wp2_with (first
        | (refine wpList_store_slc rfl _ _ rfl (j := i) rfl HD (.int .i64 y) rfl (by kernel_rfl) (by omega) rfl ?_; clear HD; intro w5 H5)
        | (refine wpList_store_slc rfl _ _ rfl (j := j) rfl H5 (.int .i64 x) rfl (by kernel_rfl) (by omega) rfl ?_; clear H5; intro w6 H6))
      rw [nums_set, nums_set] at H6
      go_roundw
      case rel => exact ⟨i + 1, _, by go_num, by go_num, by omega, hst2, H6⟩
      case measure => simp [intOf]; omega
    · have hfin := Lib.hid (rev_end hst.out hx.out (by omega))
      clear hst
      go_wp2
      go_end0
      rw [← hfin.out]
      exact ⟨_, rfl, H⟩
end Go.Proofs.Ytpbodonmiepilaa
/- split: the walk of Plan's way. -/
namespace Go.Proofs.Ytpbodonmiepilaa
open Go.RowKit

theorem wpList_slice_lh {P : Program} {ops : Array Oper} {rest : List Oper} {o : Oper} {a : Act} {w : World} {Q : Exit → Act → World → Prop} (hgd : o.guard = none) {ty : TypeId} (x lo hi : Operand) (ho : o.op = .slice ty x (some lo) (some hi) none)
    (ht : P.underlying ty = some (.slice (P.elem ty))) {size : Nat} (hsz : ∀ w, (sizeOf (P.elem ty)).run P w = .ok size w) {ad : Option Addr} {n c k m : Nat} (hx : a.eval x = .slice ad n c) (hlo : a.eval lo = .int .i64 k) (hhi : a.eval hi = .int .i64 m) (hk : k ≤ m) (hm : m ≤ c) {tv : Value} (hv : Hid (sliced ad k m c size = tv))
    (h : wpList P ops Q rest (a.put o.dst tv) w) : wpList P ops Q (o :: rest) a w := by
  refine wpList_plain hgd fun K hK => ?_
  have hr := run_slice_lh (P := P) (w := w) ty ad n c ht .i64 .i64 (k : Int) (m : Int) (by omega) (by omega) (by omega)
  rw [hsz, Result.andThen_ok, Int.toNat_natCast, Int.toNat_natCast, hv.out] at hr
  unfold Oper.wp execOp
  simp only [ho, Sem.run_bind, Sem.run_pure, hx, hlo, hhi, Option.map_some, Option.map_none]
  rw [run_sliceAt_slice w ty _ _ _ _ ht, hr, Result.andThen_ok]
  exact hK _ _ h
def segT (T : List Tok) (a b : Nat) : List Tok := (T.take b).drop a
theorem segT_length {T : List Tok} {a b : Nat} (hb : b ≤ T.length) : (segT T a b).length = b - a := by unfold segT; rw [List.length_drop, List.length_take]; omega
theorem segT_ok {T : List Tok} {a b : Nat} (h : ∀ t ∈ T, TokOk t) : ∀ t ∈ segT T a b, TokOk t := fun t ht => h t (List.mem_of_mem_take (List.mem_of_mem_drop ht))
theorem cst_bd {T : List Tok} {a b : Nat} (h : ∀ t ∈ T, TokOk t) (hT : T.length ≤ 3000) : cstF (segT T a b) ≤ 159000 := by
  have h1 := cst_le (segT T a b) (k := 1) (.inl rfl)
  have h3 : (segT T a b).length ≤ T.length := by unfold segT; rw [List.length_drop, List.length_take]; omega
  have h2 := blockB_size (segT_ok (a := a) (b := b) h) (by omega) 1 false
  omega
set_option maxRecDepth 100000 in
set_option maxHeartbeats 1600000 in
theorem way_any {w0 w : World} {ps : List Piece} {bl : Nat} {ta : Option Addr} {tc : Nat} {T : List Tok} (sf : Nat) (j : Int) (fr tt : Nat) (ht : Rd w0 3 (.slice ta T.length tc) T.length (rows tcell T)) (hok : ∀ t ∈ T, TokOk t) (hT : T.length ≤ 3000) (hsf : sf ≤ 1000000000) (hft : fr ≤ tt) (hto : tt ≤ T.length)
    (H : Own w0 w (blk bl (.cells #[.slice ta T.length tc] 26) :: ps)) :
    Calls Try.prog 21 #[.int .i64 sf, .int .i64 j, .int .i64 fr, .int .i64 tt, .pointer (some ⟨bl, 0, none⟩)] w (Ret fun r w' => r = .agg #[.int .i64 ((sf : Int) + cstF (segT T fr tt)), .int .i64 j, .int .i64 (kdF (segT T fr tt))] ∧ Own w0 w' (blk bl (.cells #[.slice ta T.length tc] 26) :: ps)) := by
  have hcb := cst_bd (a := fr) (b := tt) hok hT
  have hsh := ht.shape
  obtain ⟨ta', tc', e0, htc1, htc2⟩ := hsh
  cases e0
  have hrd : ∀ w1 (qs : List Piece), Own w0 w1 qs → Rd w1 3 (sliced ta fr tt tc 3) (segT T fr tt).length (rows tcell (segT T fr tt)) := fun w1 qs h => by
    have h1 := (ht.old h).sliced hft hto
    rw [rows_take tcell tcell_length, rows_drop tcell tcell_length] at h1
    rw [segT_length hto]
    exact h1
  obtain ⟨tv, htv⟩ : ∃ tv, Hid (sliced ta fr tt tc 3 = tv) := ⟨_, rfl⟩
  rw [htv.out] at hrd
  have KC := Lib.hid (fun w1 qs (h : Own w0 w1 qs) => cost_any (hrd w1 qs h) (segT_ok hok) (by rw [segT_length hto]; omega))
  obtain ⟨N, hN⟩ : ∃ N, Hid (T.length = N) := ⟨_, rfl⟩
  rw [hN.out] at H htc1 hto hT ⊢
  generalize cstF (segT T fr tt) = cs at *
  generalize kdF (segT T fr tt) = kd at *
  clear hrd ht hok
  have H2 := H.alloc (.cells #[.int .i64 0, .int .i64 0, .int .i64 0] 49)
  have hw1 : IntKind.i64.wrap ((sf : Int) + (cs : Int)) = (sf : Int) + cs := IntWalk.i64_in _ ⟨by omega, by omega⟩
  go_enter Try.func21, Try.ntmps21
  go_upto_region 1 with (fail)
  generalize w.alloc _ = w1 at *
  generalize w.heap.size = g at *
  have c0 := (H2.front 1 rfl).cells
  go_wp2_with (refine wpList_slice_lh rfl _ _ _ rfl (by kernel_rfl) (fun _ => by kernel_rfl) rfl rfl rfl hft (by omega) htv ?_)
  refine (KC.out _ _ H2).mono ?_
  rintro e w2 ⟨_, rfl, rfl, J⟩
  replace H2 := H2.join J
  clear J KC c0 H
  replace H2 : Own w0 w2 (blk g (.cells #[.int .i64 0, .int .i64 0, .int .i64 0] 49) :: blk bl (.cells #[.slice ta N tc] 26) :: ps) := H2
  go_wp2_with (refine wpList_store_agg (vs := [.int .i64 ((sf : Int) + cs), .int .i64 j, .int .i64 kd]) rfl _ _ rfl rfl H2 rfl (by kernel_rfl) (by simp) (by simp [Value.oneCell']) rfl ?_; clear H2; intro w5 H2)
  have c0 := H2.cells
  have hld : (loadVar 49 ⟨g, 0, none⟩).run Try.prog w5 = .ok (.agg #[.int .i64 ((sf : Int) + cs), .int .i64 j, .int .i64 kd]) w5 := by
    go_simp
  refine bodyPost_ret (results_cell1 rfl _ _ g _ rfl hld) rfl ?_
  exact ⟨_, rfl, rfl, H2.drop⟩
end Go.Proofs.Ytpbodonmiepilaa
/- Two slices of ints, held against one another. (Picked out of others by tools/pick.py.) -/
namespace Go.Proofs.Ytpbodonmiepilaa
open Go.RowKit

theorem eq_of_getD {xs ys : List Int} (h : xs.length = ys.length) (hh : ∀ j, j < xs.length → xs.getD j 0 = ys.getD j 0) : xs = ys := by
  apply List.ext_getElem h
  intro i h1 h2
  have := hh i h1
  simpa [List.getD, h1, h2] using this
set_option maxHeartbeats 400000 in
theorem same_quiet (v1 v2 : Value) (n1 n2 : Nat) (xs ys : List Int) (w : World) (h1 : Rd w 1 v1 n1 (xs.map (.int .i64))) (h2 : Rd w 1 v2 n2 (ys.map (.int .i64))) :
    Calls Try.prog 19 #[v1, v2] w fun e w' => e = .returned (.bool (decide (xs = ys))) ∧ ∃ n, w' = w.drewN n := by
  have F1 := Lib.hid h1; clear h1
  have F2 := Lib.hid h2; clear h2
  have E1 : Hid (n1 = xs.length) := by have := F1.out.len; simp at this; exact this.symm
  have E2 : Hid (n2 = ys.length) := by have := F2.out.len; simp at this; exact this.symm
  obtain ⟨a1, c1, rfl, hn1, hm1⟩ := F1.out.shape
  obtain ⟨a2, c2, rfl, hn2, hm2⟩ := F2.out.shape
  go_enter Try.func19, Try.ntmps19
  go_wp2
  · have HN : Hid (n1 ≠ n2) := by have h : ((n1 : Int) != (n2 : Int)) = true := by assumption
                                  simp at h; exact Lib.hid (by omega)
    go_ret
    exact ⟨ret_bool (by simp; intro h; exact HN.out (by rw [E1.out, E2.out, h])), 0, rfl⟩
  · have HN : Hid (n1 = n2) := by have h : ((n1 : Int) != (n2 : Int)) = false := by assumption
                                  simp at h; exact Lib.hid (by omega)
    go_loopw [5] (fun i wr => ∃ k : Nat, k ≤ n1 ∧ i = .int .i64 k ∧ (∃ m, wr = w.drewN m) ∧ Hid (∀ j, j < k → xs.getD j 0 = ys.getD j 0)) (fun i _ => n1 - (intOf i).toNat)
    case atStart => exact ⟨0, Nat.zero_le _, rfl, ⟨0, rfl⟩, Lib.hid (by intro j hj; omega)⟩
    case round =>
      obtain ⟨k, hk, rfl, ⟨m, rfl⟩, hall⟩ := hrel
      by_cases hlt : k < n1
      · have hlt2 : k < n2 := by have := HN.out; omega
        obtain ⟨b1, o1, c1, e1, _, _, g1⟩ := F1.out.at (by have := F1.out.len; omega)
        obtain ⟨b2, o2, c2, e2, _, _, g2⟩ := F2.out.at (by have := F2.out.len; omega)
        cases e1; cases e2
        replace g1 := g1 k _ (ints_get _ _ (by have := E1.out; omega))
        replace g2 := g2 k _ (ints_get _ _ (by have := E2.out; omega))
        obtain ⟨x, hx⟩ : ∃ x, Hid (xs.getD k 0 = x) := ⟨_, rfl⟩
        obtain ⟨y, hy⟩ : ∃ x, Hid (ys.getD k 0 = x) := ⟨_, rfl⟩
        rw [hx.out] at g1; rw [hy.out] at g2
        go_wp2
        go_quiet (fail)
        go_wp2
        · have h : (x != y) = true := by assumption
          go_ret
          exact ⟨ret_bool (by simp at h ⊢; rintro rfl; exact h (by rw [← hx.out, hy.out])), m + nq, by first | rfl | exact drewN_add _ _ _⟩
        · have h : (x != y) = false := by assumption
          go_round
          case rel => exact ⟨k + 1, by omega, by go_num, ⟨_, rfl⟩, Lib.hid (fun j hj => by
            by_cases e : j = k
            · subst e; rw [hx.out, hy.out]; simpa using h
            · exact hall.out j (by omega))⟩
          case measure => simp [intOf]; omega
      · go_wp2
        go_ret
        refine ⟨ret_bool ?_, _, rfl⟩
        simp
        exact eq_of_getD (by rw [← E1.out, ← E2.out, HN.out]) (fun j hj => hall.out j (by have := E1.out; omega))
end Go.Proofs.Ytpbodonmiepilaa
/- split: the walks of Cuts, and of the laws' examples. -/
namespace Go.Proofs.Ytpbodonmiepilaa
open Go.RowKit

theorem same47_any (v1 v2 : Value) (n1 n2 : Nat) (xs ys : List Int) (w : World) (h1 : Rd w 1 v1 n1 (xs.map (.int .i64))) (h2 : Rd w 1 v2 n2 (ys.map (.int .i64))) :
    Calls Try.prog 19 #[v1, v2] w fun e w' => e = .returned (.bool (decide (xs = ys))) ∧ Own w w' [] :=
  (same_quiet v1 v2 n1 n2 xs ys w h1 h2).mono fun _ _ ⟨he, n, hw⟩ => ⟨he, by rw [hw]; exact (Own.start w).drewN n⟩

/-- the size of a segment -/
def cutSize (n : Int) : Int := max (n.tdiv 12 + if n.tmod 12 > 0 then 1 else 0) 64
def cutRow (s : Int) (k : Nat) : List Int := (List.range k).map fun (j : Nat) => s * ((j : Int) + 1)
theorem cutRow_succ (s : Int) (k : Nat) : cutRow s (k + 1) = cutRow s k ++ [s * ((k : Int) + 1)] := by simp [cutRow, List.range_succ]
theorem cutRow_length (s : Int) (k : Nat) : (cutRow s k).length = k := by simp [cutRow]

theorem tdiv12 (n : Int) : 12 * n.tdiv 12 + n.tmod 12 = n ∧ (0 ≤ n → 0 ≤ n.tmod 12 ∧ n.tmod 12 < 12) ∧ (n < 0 → -12 < n.tmod 12 ∧ n.tmod 12 ≤ 0) := by
  refine ⟨Int.mul_tdiv_add_tmod n 12, fun h => ?_, fun h => ?_⟩
  · rw [Int.tmod_eq_emod_of_nonneg h]; omega
  · have : n.tmod 12 = -((-n).tmod 12) := by rw [Int.neg_tmod]; omega
    rw [this, Int.tmod_eq_emod_of_nonneg (by omega)]; omega
theorem cutSize_of {n q : Int} (h : q = n.tdiv 12 + if n.tmod 12 > 0 then 1 else 0) : cutSize n = max q 64 := by rw [h]; rfl
theorem cutSize_bd (n : Int) (h1 : -9223372036854775808 ≤ n) (h2 : n ≤ 9223372036854775807) : 64 ≤ cutSize n ∧ cutSize n ≤ 768614336404564651 := by
  have := tdiv12 n
  unfold cutSize
  split <;> omega

def CutsR (n : Int) (w : World) (v : Value) (w' : World) : Prop := ∃ k : Nat, k ≤ 11 ∧ (k = 0 ∨ cutSize n * k < n) ∧ (k = 11 ∨ n ≤ cutSize n * (k + 1)) ∧
  Own w w' [slc 3 1 v (k + 1) ((cutRow (cutSize n) k ++ [max n 0]).map (.int .i64))]

set_option maxHeartbeats 400000 in
theorem cuts_any (n : Int) (hn : -9223372036854775808 ≤ n ∧ n ≤ 9223372036854775807) (w : World) :
    Calls Try.prog 7 #[.int .i64 n] w (Ret (CutsR n w)) := by
  obtain ⟨hn1, hn2⟩ := hn
  have ht := Lib.hid (tdiv12 n)
  have hbd := cutSize_bd n hn1 hn2
  obtain ⟨s, hs⟩ : ∃ s, Hid (cutSize n = s) := ⟨_, rfl⟩
  rw [hs.out] at hbd
  obtain ⟨hb1, hb2⟩ := hbd
  go_enter Try.func7, Try.ntmps7
  go_upto_if 10 with (fail)
  go_cut [3] (fun s3 wx => wx = w ∧ ∃ q : Int, s3 = .int .i64 q ∧ -768614336404564651 ≤ q ∧ q ≤ 768614336404564651 ∧ Hid (s = max q 64))
  case first =>
    have hb : -768614336404564650 ≤ n.tdiv 12 ∧ n.tdiv 12 ≤ 768614336404564650 := by have := ht.out; omega
    go_wp2
    all_goals go_meet
    · exact ⟨rfl, _, rfl, by omega, by omega, Lib.hid (by rw [← hs.out]; exact cutSize_of (by rw [if_pos (by assumption)]))⟩
    · exact ⟨rfl, _, rfl, by omega, by omega, Lib.hid (by rw [← hs.out]; exact cutSize_of (by rw [if_neg (by omega)]; simp))⟩
  case rest =>
    obtain ⟨rfl, q, rfl, hq1, hq2, hq⟩ := hcut
    go_upto_region 4 with (fail)
    go_cut [3] (fun s3 wx => wx = wc ∧ s3 = .int .i64 s)
    case first =>
      go_wp2
      all_goals go_meet
      all_goals exact ⟨rfl, val_int (by have := hq.out; omega)⟩
    case rest =>
      obtain ⟨rfl, rfl⟩ := hcut
      go_wp2
      go_loopw [4, 5] (fun l at_ wr => ∃ k : Nat, ∃ t : Int, k ≤ 11 ∧ at_ = .int .i64 t ∧ Hid (k < 11 → t = s * (k + 1)) ∧ Hid (k = 0 ∨ s * k < n) ∧ Own wc wr [slc 3 1 l k ((cutRow s k).map (.int .i64))])
        (fun l _ _ => 11 - sliceLen l)
      case atStart => exact ⟨0, s, by omega, rfl, Lib.hid (by intro _; simp), Lib.hid (.inl rfl), (Own.start wc).nil _ _⟩
      case round =>
        obtain ⟨k, t, hk, rfl, ht, hlow, hown⟩ := hrel
        obtain ⟨a, c, rfl, _, _⟩ := hown.rd.shape
        go_wp2_with (first
          | (at_builtin; refine wpList_append_one rfl _ _ rfl Try.underlying22 intInfo rfl (by decide) rfl hown rfl rfl rfl (by simp [Value.oneCell']) (by omega) (by omega) ?_; intro v' w' hown'))
        · obtain ⟨_, _, rfl, _, _⟩ := hown'.rd.shape
          go_roundw
          case rel => exact ⟨k + 1, _, by omega, rfl, Lib.hid (fun h => by
              have e := ht.out (by omega)
              have : s * (k + 1) + s = s * ((k + 1 : Nat) + 1) := by rw [Int.natCast_add, Int.mul_add s ((k : Int) + (1 : Nat)) 1]; simp
              have hmul : s * ((k + 1 : Nat) + 1) ≤ 768614336404564651 * 11 := by
                refine Int.le_trans (Int.mul_le_mul_of_nonneg_right hb2 (by omega)) ?_
                omega
              have hmul0 : 0 ≤ s * ((k + 1 : Nat) + 1) := Int.mul_nonneg (by omega) (by omega)
              rw [← this, ← e] at hmul hmul0 ⊢
              exact IntWalk.wrap64_in _ ⟨by omega, by omega⟩), Lib.hid (.inr (by
              have h1 : t < n := by assumption
              rw [ht.out (by omega)] at h1; simpa using h1)), by rw [cutRow_succ, List.map_append]; simpa [ht.out (show k < 11 by omega)] using hown'⟩
          case measure => simp [sliceLen]; omega
        all_goals
          go_ret
          refine ⟨v', rfl, k, hk, ?_⟩
          rw [hs.out]
          refine ⟨hlow.out, ?_, ?_⟩
          · first
              | exact .inl (by omega)
              | (have h1 : n ≤ t := by assumption
                 by_cases h : k < 11
                 · right; rw [ht.out h] at h1; exact h1
                 · left; omega)
          · rw [List.map_append]
            have e : (max n 0 : Int) = if n < 0 then 0 else n := by omega
            rw [e]; simpa using hown'

theorem cuts_1200 (w : World) : Calls Try.prog 7 #[.int .i64 1200] w (Ret fun v w' => Own w w' [slc 3 1 v 12 ([100, 200, 300, 400, 500, 600, 700, 800, 900, 1000, 1100, 1200].map (.int .i64))]) := by
  refine (cuts_any 1200 (by omega) w).mono ?_
  rintro e w' ⟨v, rfl, k, hk, h1, h2, hown⟩
  have hs : cutSize 1200 = 100 := by decide
  rw [hs] at h1 h2 hown
  obtain rfl : k = 11 := by omega
  exact ⟨v, rfl, hown⟩
theorem cuts_200 (w : World) : Calls Try.prog 7 #[.int .i64 200] w (Ret fun v w' => Own w w' [slc 3 1 v 4 ([64, 128, 192, 200].map (.int .i64))]) := by
  refine (cuts_any 200 (by omega) w).mono ?_
  rintro e w' ⟨v, rfl, k, hk, h1, h2, hown⟩
  have hs : cutSize 200 = 64 := by decide
  rw [hs] at h1 h2 hown
  obtain rfl : k = 3 := by omega
  exact ⟨v, rfl, hown⟩

set_option maxHeartbeats 400000 in
theorem awake47_any (w : World) : Calls Try.prog 8 #[] w (Ret fun v w' => v = .bool true ∧ Own w w' []) := by
  go_enter Try.func8, Try.ntmps8
  go_wp2_with fail
  refine (cuts_1200 w).mono ?_
  rintro e w1 ⟨v1, rfl, h1⟩
  go_wp2_with fail
  refine (cuts_200 w1).mono ?_
  rintro e w2 ⟨v2, rfl, h2⟩
  have H := h1.join h2
  have H3 := H.made ([64, 128, 192, 200].map (.int .i64)) 3 1 4 rfl (by decide)
  go_wp2_with fail
  refine (same47_any _ _ 4 4 [64, 128, 192, 200] [64, 128, 192, 200] _ ?_ ?_).mono ?_
  · exact (H3.front 1 rfl).rd
  · exact H3.rd
  rintro e w3 ⟨rfl, h3⟩
  have H4 := (H3.join h3).front 2 rfl
  obtain ⟨g, c, rfl, _, _, _, _, hc, _⟩ := H4.at (by decide)
  have c0 := hc 0 _ rfl
  have c11 := hc 11 _ rfl
  clear hc
  go_wp2
  go_ret
  exact ⟨.bool true, rfl, rfl, H4.drop.drop.drop⟩

end Go.Proofs.Ytpbodonmiepilaa
/- split: the plan, plainly. No program in sight. -/
namespace Go.Proofs.Ytpbodonmiepilaa

abbrev Way := Nat × Int × Int
def bcell (x : Way) : List Value := [.int .i64 (x.1 : Int), .int .i64 x.2.1, .int .i64 x.2.2]
theorem bcell_length (x : Way) : (bcell x).length = 3 := rfl
def wayT (T : List Tok) (sf : Nat) (j : Int) (fr tt : Nat) : Way := (sf + cstF (segT T fr tt), j, kdF (segT T fr tt))
/-- The best way up to 'tt' among the one from the beginning and those from the first j cuts. -/
def bestT (T : List Tok) (C : List Nat) (W : List Way) (tt : Nat) : Nat → Way
  | 0 => wayT T 0 (-1) 0 tt
  | j + 1 => if (wayT T (W.getD j (0, 0, 0)).1 j (C.getD j 0) tt).1 < (bestT T C W tt j).1 then wayT T (W.getD j (0, 0, 0)).1 j (C.getD j 0) tt else bestT T C W tt j
def waysT (T : List Tok) (C : List Nat) : Nat → List Way
  | 0 => []
  | i + 1 => waysT T C i ++ [bestT T C (waysT T C i) (C.getD i 0) i]
def backT (W : List Way) : Nat → Int → List Nat
  | 0, _ => []
  | f + 1, i => if i < 0 then [] else i.toNat :: backT W f (W.getD i.toNat (0, 0, 0)).2.1
def planI (T : List Tok) (C : List Nat) : List Nat := backT (waysT T C C.length) C.length ((C.length : Int) - 1)
def atT (T : List Tok) (C : List Nat) : List Int := ((planI T C).map fun i => ((C.getD i 0 : Nat) : Int)).reverse
def ksT (T : List Tok) (C : List Nat) : List Int := ((planI T C).map fun i => ((waysT T C C.length).getD i (0, 0, 0)).2.2).reverse

theorem waysT_length (T : List Tok) (C : List Nat) : ∀ i, (waysT T C i).length = i
  | 0 => rfl
  | i + 1 => by simp [waysT, waysT_length T C i]
theorem waysT_get (T : List Tok) (C : List Nat) (i j : Nat) (h : j < i) : (waysT T C i).getD j (0, 0, 0) = bestT T C (waysT T C j) (C.getD j 0) j := by
  induction i with
  | zero => omega
  | succ i ih =>
    rw [waysT]
    by_cases hj : j < i
    · rw [← ih hj]
      simp [List.getD, List.getElem?_append_left (show j < (waysT T C i).length by rw [waysT_length]; exact hj)]
    · obtain rfl : j = i := by omega
      have := waysT_length T C j
      simp [List.getD, this]
theorem bestT_le0 (T : List Tok) (C : List Nat) (W : List Way) (tt : Nat) : ∀ j, (bestT T C W tt j).1 ≤ cstF (segT T 0 tt)
  | 0 => by simp [bestT, wayT]
  | j + 1 => by
    have := bestT_le0 T C W tt j
    rw [bestT]
    split <;> omega
theorem bestT_bd {T : List Tok} (h : ∀ t ∈ T, TokOk t) (hT : T.length ≤ 3000) (C : List Nat) (W : List Way) (tt j : Nat) : (bestT T C W tt j).1 ≤ 159000 :=
  Nat.le_trans (bestT_le0 T C W tt j) (cst_bd h hT)
theorem bestT_from (T : List Tok) (C : List Nat) (W : List Way) (tt : Nat) : ∀ j, -1 ≤ (bestT T C W tt j).2.1 ∧ (bestT T C W tt j).2.1 < j ∧ ((bestT T C W tt j).2.2 = 1 ∨ (bestT T C W tt j).2.2 = 2)
  | 0 => by
    have := (cst_kd (segT T 0 tt)).2
    simp only [bestT, wayT]
    refine ⟨by omega, by omega, this⟩
  | j + 1 => by
    obtain ⟨h1, h2, h3⟩ := bestT_from T C W tt j
    rw [bestT]
    split
    · have := (cst_kd (segT T (C.getD j 0) tt)).2
      simp only [wayT]
      exact ⟨by omega, by omega, this⟩
    · exact ⟨h1, by omega, h3⟩
theorem backT_neg (W : List Way) (f : Nat) {i : Int} (h : i < 0) : backT W f i = [] := by
  cases f with
  | zero => rfl
  | succ f => rw [backT, if_pos h]
theorem backT_step (W : List Way) (f i : Nat) : backT W (f + 1) (i : Int) = i :: backT W f (W.getD i (0, 0, 0)).2.1 := by
  rw [backT, if_neg (by omega), Int.toNat_natCast]
/-- Where tokens may be cut. -/
def CutsIs (N : Nat) (C : List Nat) : Prop := ∃ s k : Nat, (s : Int) = cutSize N ∧ 64 ≤ s ∧ k ≤ 11 ∧ (k = 0 ∨ s * k < N) ∧ (k = 11 ∨ N ≤ s * (k + 1)) ∧ C = ((List.range k).map fun j => s * (j + 1)) ++ [N]
theorem cutsIs_uniq {N : Nat} {C C' : List Nat} (h : CutsIs N C) (h' : CutsIs N C') : C = C' := by
  obtain ⟨s, k, hs, h64, a1, a2, a3, rfl⟩ := h
  obtain ⟨s', k', hs', _, b1, b2, b3, rfl⟩ := h'
  obtain rfl : s = s' := by omega
  have key : ∀ k k' : Nat, k ≤ 11 → k' ≤ 11 → (k' = 0 ∨ s * k' < N) → (k = 11 ∨ N ≤ s * (k + 1)) → ¬ k < k' := by
    intro k k' c1 c2 c3 c4 hlt
    have hm : s * (k + 1) ≤ s * k' := Nat.mul_le_mul_left _ hlt
    omega
  obtain rfl : k = k' := by
    have := key k k' a1 b1 b2 a3
    have := key k' k b1 a1 a2 b3
    omega
  rfl
theorem CutsIs.facts {N : Nat} {C : List Nat} (h : CutsIs N C) : 0 < C.length ∧ C.length ≤ 12 ∧ C.getD (C.length - 1) 0 = N ∧ (∀ i j, i < j → j < C.length → C.getD i 0 < C.getD j 0) ∧ (∀ i, C.getD i 0 ≤ N) := by
  obtain ⟨s, k, hs, h64, a1, a2, a3, rfl⟩ := h
  have hg : ∀ i, (((List.range k).map fun j => s * (j + 1)) ++ [N]).getD i 0 = if i < k then s * (i + 1) else if i = k then N else 0 := by
    intro i
    by_cases hi : i < k
    · simp [List.getD, List.getElem?_append_left (show i < ((List.range k).map fun j => s * (j + 1)).length by simpa using hi), hi]
    · by_cases hk : i = k
      · subst hk
        simp [List.getD]
      · simp [List.getD, hi, hk, List.getElem?_eq_none (show (((List.range k).map fun j => s * (j + 1)) ++ [N]).length ≤ i by simp; omega)]
  have hlen : (((List.range k).map fun j => s * (j + 1)) ++ [N]).length = k + 1 := by simp
  have hk : ∀ i, i < k → s * (i + 1) < N := fun i hi => by
    have : s * (i + 1) ≤ s * k := Nat.mul_le_mul_left _ hi
    omega
  refine ⟨by omega, by omega, ?_, fun i j hij hj => ?_, fun i => ?_⟩
  · rw [hg, hlen]; simp
  · rw [hlen] at hj
    rw [hg, hg, if_pos (by omega)]
    by_cases hjk : j < k
    · rw [if_pos hjk]
      exact Nat.mul_lt_mul_of_pos_left (by omega) (by omega)
    · rw [if_neg hjk, if_pos (by omega)]
      exact hk i (by omega)
  · rw [hg]
    split
    · next h => exact Nat.le_of_lt (hk i h)
    · split <;> omega
theorem cutsR_is {N : Nat} (hN : N ≤ 1000000) {w w' : World} {v : Value} (h : CutsR N w v w') : ∃ C : List Nat, CutsIs N C ∧ Own w w' [slc 3 1 v C.length (nums (C.map Int.ofNat))] := by
  obtain ⟨k, h1, h2, h3, H⟩ := h
  obtain ⟨b1, b2⟩ := cutSize_bd (N : Int) (by omega) (by omega)
  obtain ⟨s, hs⟩ : ∃ s : Nat, cutSize (N : Int) = s := ⟨(cutSize N).toNat, by omega⟩
  rw [hs] at h2 h3 H b1
  refine ⟨((List.range k).map fun j => s * (j + 1)) ++ [N], ⟨s, k, hs.symm, by omega, h1, ?_, ?_, rfl⟩, ?_⟩
  · rcases h2 with h | h
    · exact .inl h
    · refine .inr ?_
      have : ((s * k : Nat) : Int) < (N : Nat) := by push_cast; exact h
      omega
  · rcases h3 with h | h
    · exact .inl h
    · refine .inr ?_
      have : ((N : Nat) : Int) ≤ ((s * (k + 1) : Nat) : Int) := by push_cast; exact h
      omega
  · have e : nums ((((List.range k).map fun j => s * (j + 1)) ++ [N]).map Int.ofNat) = (cutRow (s : Int) k ++ [max (N : Int) 0]).map (.int .i64) := by
      rw [show max (N : Int) 0 = (N : Int) by omega]
      simp [nums, cutRow, List.map_append, Function.comp_def]
    rw [e]
    simpa using H
end Go.Proofs.Ytpbodonmiepilaa
/- As XCalm: a new operation may look at what other new ones yielded that it waits for. No program in sight. (Written by tools/tre.py.) -/
namespace Go.Proofs.Ytpbodonmiepilaa.Tre
open Go.RowKit

/-- What the new ones write nobody ahead of the n-th looks at, but those new ones that eat it, which wait for it. -/
def eatOk (ops : Array Oper) (n : Nat) (nw : List Nat) (eat : Nat → List Nat) : Bool :=
  (nw.all fun k => decide (k < n) && match ops[k]? with
    | none => true
    | some ok => ok.guard.isNone && match ok.dst with
      | none => true
      | some d => (List.range n).all fun j => match ops[j]? with
        | none => true
        | some oj => !(oj.looksAt ops).contains d || (eat j).contains k) &&
  (List.range n).all fun i => (eat i).all fun k => nw.contains i && nw.contains k && decide (k < i) && match ops[i]? with
    | none => false
    | some oi => waits oi k

structure Eats (ops : Array Oper) (n : Nat) (nw : List Nat) (eat : Nat → List Nat) : Prop where
  newLt : ∀ k ∈ nw, k < n
  newPlain : ∀ k ∈ nw, ∀ o, ops[k]? = some o → o.guard = none
  newApart : ∀ k ∈ nw, ∀ (ok : Oper) (d : Tmp), ops[k]? = some ok → ok.dst = some d → ∀ (j : Nat) (oj : Oper), j < n → ops[j]? = some oj → d ∈ oj.looksAt ops → k ∈ eat j
  eats : ∀ i, i < n → ∀ k ∈ eat i, i ∈ nw ∧ k ∈ nw ∧ k < i ∧ ∀ o, ops[i]? = some o → waits o k = true

theorem eats_of {ops : Array Oper} {n : Nat} {nw : List Nat} {eat : Nat → List Nat} (h : eatOk ops n nw eat = true) : Eats ops n nw eat := by
  unfold eatOk at h
  rw [Bool.and_eq_true] at h
  obtain ⟨hnew, he⟩ := h
  have hnw : ∀ k ∈ nw, k < n ∧ ∀ ok, ops[k]? = some ok → ok.guard = none ∧ ∀ d, ok.dst = some d → ∀ (j : Nat) (oj : Oper), j < n → ops[j]? = some oj → d ∈ oj.looksAt ops → k ∈ eat j := by
    intro k hk
    rw [List.all_eq_true] at hnew
    have hh := hnew k hk
    rw [Bool.and_eq_true, decide_eq_true_eq] at hh
    refine ⟨hh.1, fun ok hok => ?_⟩
    have h2 := hh.2
    simp only [hok, Bool.and_eq_true] at h2
    refine ⟨by simpa using h2.1, fun d hd j oj hj hoj hdl => ?_⟩
    have h3 := h2.2
    simp only [hd, List.all_eq_true, List.mem_range] at h3
    have h4 := h3 j hj
    simp only [hoj, Bool.or_eq_true, Bool.not_eq_true'] at h4
    rcases h4 with h4 | h4
    · exact absurd hdl (by simpa using h4)
    · simpa using h4
  refine ⟨fun k hk => (hnw k hk).1, fun k hk o ho => ((hnw k hk).2 o ho).1, fun k hk ok d hok hd j oj hj hoj => ((hnw k hk).2 ok hok).2 d hd j oj hj hoj, fun i hi k hk => ?_⟩
  rw [List.all_eq_true] at he
  have h1 := he i (List.mem_range.2 hi)
  rw [List.all_eq_true] at h1
  have h2 := h1 k hk
  simp only [Bool.and_eq_true, decide_eq_true_eq] at h2
  obtain ⟨⟨⟨a1, a2⟩, a3⟩, a4⟩ := h2
  refine ⟨by simpa using a1, by simpa using a2, a3, fun o ho => ?_⟩
  simpa [ho] using a4

/-- In every world that meets S, when what it eats was done, the operation yields something new, of which S then speaks. -/
def New1 (P : Program) (l : List Oper) (S : Sig → World → Prop) (eat : Nat → List Nat) (i : Nat) (o : Oper) (a : Act) : Prop :=
  ∀ σ w, S σ w → σ i = none → (∀ k ∈ eat i, (σ k).isSome = true) → ∀ (K : Act → World → Prop) (Q : Exit → Act → World → Prop), (∀ v w', S (σ.upd i v) w' → K ((putNew l (eat i) σ a).put o.dst v) w') → o.wp P (putNew l (eat i) σ a) w K Q

def calm (P : Program) (l : List Oper) (eat : Nat → List Nat) (ops : Array Oper) (S : Sig → World → Prop) (nw : List Nat) (R : Act → Prop) : Nat → List Oper → Act → Prop
  | _, [], a => R a
  | i, o :: rest, a => (i ∈ nw ∧ New1 P l S eat i o a ∧ calm P l eat ops S nw R (i + 1) rest a) ∨
      (i ∉ nw ∧ Region.wanted o (yielded ops a.tmps) = true ∧ ∃ v, Calm1 P S o a v ∧ calm P l eat ops S nw R (i + 1) rest (a.put o.dst v)) ∨
      (i ∉ nw ∧ Region.wanted o (yielded ops a.tmps) = false ∧ calm P l eat ops S nw R (i + 1) rest (a.put o.dst undef))

section
variable {P : Program} {l : List Oper} {eat : Nat → List Nat} {ops : Array Oper} {S : Sig → World → Prop} {nw : List Nat} {R : Act → Prop} {a : Act} {o : Oper} {rest : List Oper} {i : Nat}
theorem calm_nil (h : R a) : calm P l eat ops S nw R i [] a := h
theorem calm_step (v : Value) (hi : i ∉ nw) (hw : Region.wanted o (yielded ops a.tmps) = true)
    (h1 : ∀ σ w, S σ w → ∀ (K : Act → World → Prop) (Q : Exit → Act → World → Prop), (∀ w', S σ w' → K (a.put o.dst v) w') → o.wp P a w K Q) (h : calm P l eat ops S nw R (i + 1) rest (a.put o.dst v)) : calm P l eat ops S nw R i (o :: rest) a := .inr (.inl ⟨hi, hw, v, h1, h⟩)
theorem calm_skip (hi : i ∉ nw) (hw : Region.wanted o (yielded ops a.tmps) = false)
    (h : calm P l eat ops S nw R (i + 1) rest (a.put o.dst undef)) : calm P l eat ops S nw R i (o :: rest) a := .inr (.inr ⟨hi, hw, h⟩)
theorem calm_new (hi : i ∈ nw)
    (h1 : New1 P l S eat i o a) (h : calm P l eat ops S nw R (i + 1) rest a) : calm P l eat ops S nw R i (o :: rest) a := .inl ⟨hi, h1, h⟩
end

section
variable {P : Program} {l : List Oper} {ops : Array Oper} {S : Sig → World → Prop} {nw : List Nat} {eat : Nat → List Nat}
theorem calm_frames {R : Act → Prop} : ∀ (m : List Oper) (i : Nat) (a : Act), calm P l eat ops S nw R i m a →
    ∃ vs : List Value, vs.length = m.length ∧ R (frames ((dets nw i m).zip vs) a) ∧
      ∀ k o, m[k]? = some o → ∃ v, vs[k]? = some v ∧
        ((i + k ∈ nw ∧ New1 P l S eat (i + k) o (frames (((dets nw i m).zip vs).take k) a)) ∨
         (i + k ∉ nw ∧ Region.wanted o (yielded ops (frames (((dets nw i m).zip vs).take k) a).tmps) = true ∧ Calm1 P S o (frames (((dets nw i m).zip vs).take k) a) v) ∨
         (i + k ∉ nw ∧ Region.wanted o (yielded ops (frames (((dets nw i m).zip vs).take k) a).tmps) = false ∧ v = undef)) := by
  intro m
  induction m with
  | nil => intro i a h; exact ⟨[], rfl, h, fun k o hk => by simp at hk⟩
  | cons o m ih =>
    intro i a h
    have step : ∀ (v : Value) (a' : Act), a' = a.put (if i ∈ nw then none else o.dst) v → calm P l eat ops S nw R (i + 1) m a' →
        ((i ∈ nw ∧ New1 P l S eat i o a) ∨ (i ∉ nw ∧ Region.wanted o (yielded ops a.tmps) = true ∧ Calm1 P S o a v) ∨ (i ∉ nw ∧ Region.wanted o (yielded ops a.tmps) = false ∧ v = undef)) → ∃ vs : List Value, vs.length = (o :: m).length ∧ R (frames ((dets nw i (o :: m)).zip vs) a) ∧
      ∀ k o', (o :: m)[k]? = some o' → ∃ v, vs[k]? = some v ∧
        ((i + k ∈ nw ∧ New1 P l S eat (i + k) o' (frames (((dets nw i (o :: m)).zip vs).take k) a)) ∨
         (i + k ∉ nw ∧ Region.wanted o' (yielded ops (frames (((dets nw i (o :: m)).zip vs).take k) a).tmps) = true ∧ Calm1 P S o' (frames (((dets nw i (o :: m)).zip vs).take k) a) v) ∨
         (i + k ∉ nw ∧ Region.wanted o' (yielded ops (frames (((dets nw i (o :: m)).zip vs).take k) a).tmps) = false ∧ v = undef)) := by
      intro v a' ha hc h0
      obtain ⟨vs, hl, hR, hk⟩ := ih _ _ hc
      refine ⟨v :: vs, by simp [hl], by rw [ha] at hR; exact hR, fun k o' hk' => ?_⟩
      cases k with
      | zero => simp at hk'; subst hk'; exact ⟨v, rfl, h0⟩
      | succ k =>
        have := hk k o' (by simpa using hk')
        rw [ha, show i + 1 + k = i + (k + 1) by omega] at this
        exact this
    rcases h with ⟨hi, h1, h2⟩ | ⟨hi, hw, v, h1, h2⟩ | ⟨hi, hw, h2⟩
    · exact step undef a (by rw [if_pos hi]; rfl) h2 (.inl ⟨hi, h1⟩)
    · exact step v _ (by rw [if_neg hi]) h2 (.inr (.inl ⟨hi, hw, h1⟩))
    · exact step undef _ (by rw [if_neg hi]) h2 (.inr (.inr ⟨hi, hw, rfl⟩))

theorem New1.at {i : Nat} {o : Oper} {a0 a a' : Act} {σ : Sig} {w : World} (h : New1 P l S eat i o a0) (ha : putNew l (eat i) σ a0 = a) (he : execOp a'.eval o = execOp a.eval o) (hs : a.tmps.size = a'.tmps.size) (hw : S σ w) (hni : σ i = none) (hdn : ∀ k ∈ eat i, (σ k).isSome = true)
    (K : Act → World → Prop) (Q : Exit → Act → World → Prop) (hK : ∀ v w', S (σ.upd i v) w' → K (a'.put o.dst v) w') : o.wp P a' w K Q := by
  have h1 := h σ w hw hni hdn (fun a1 w1 => ∃ v, a1 = (putNew l (eat i) σ a0).put o.dst v ∧ S (σ.upd i v) w1) (fun _ _ _ => False) (fun v w' hw' => ⟨v, rfl, hw'⟩)
  rw [ha] at h1
  unfold Oper.wp at *
  rw [he]
  generalize (execOp a.eval o).run P w = r at *
  cases r with
  | ok n w' =>
    cases n <;> simp only [Oper.upon] at h1 ⊢
    case value u => obtain ⟨v, e1, e2⟩ := h1; rw [put_eq hs e1]; exact hK _ _ e2
    case skip => obtain ⟨v, e1, e2⟩ := h1; rw [put_eq hs e1]; exact hK _ _ e2
    case defer d =>
      obtain ⟨v, e1, e2⟩ := h1
      have := congrArg (fun x => x.defers.length) e1
      cases hd : o.dst <;> simp [Act.put, hd] at this
    case enter f args =>
      refine Calls.mono h1 fun e w'' he => ?_
      cases e with
      | returned u =>
        show K (a'.put o.dst u) w''
        obtain ⟨v, e1, e2⟩ := he
        rw [put_eq hs e1]; exact hK _ _ e2
      | panicked c => exact he.elim
      | outgrown => obtain ⟨_, _, hh⟩ := he; exact hh.elim
    case row row args => exact Rows.mono h1 fun u w'' he => by obtain ⟨v, e1, e2⟩ := he; rw [put_eq hs e1]; exact hK _ _ e2
  | halt x w' => cases x <;> simp only [Oper.upon] at h1 ⊢
theorem wpAny_new {Q : Exit → Act → World → Prop} {a : Act} {w : World} {l : List Oper} (S : Sig → World → Prop) (n : Nat) (nw : List Nat) (eat : Nat → List Nat) (hok : calmOk l.toArray n [] = true) (hek : eatOk l.toArray n nw eat = true) (hS : S Sig.no w)
    (h : calm P l eat l.toArray S nw (fun a' => ∀ σ w', (∀ k ∈ nw, (σ k).isSome = true) → S σ w' → wpList P l.toArray Q (l.drop n) (putNew l nw σ a') w') 0 (l.take n) a)
    (listed0 : Array Bool) (hs0 : listed0.size = l.length) (hl0 : ∀ k, k < l.length → listed0.getD k true = false) :
    wpAny P .any l.toArray Q (left listed0) listed0 a w := by
  have g := good_of hok
  have q := eats_of hek
  have hnl : n ≤ l.length := by simpa using g.le
  obtain ⟨vs, hvl, hR, hk⟩ := calm_frames _ _ _ h
  have hvn : vs.length = n := by simp [hvl, hnl]
  obtain ⟨D, hD⟩ : ∃ D, (dets nw 0 (l.take n)).zip vs = D := ⟨_, rfl⟩
  rw [hD] at hR hk
  simp only [Nat.zero_add] at hk
  have hDl : D.length = n := by rw [← hD]; simp [dets_length, hvn, hnl]
  have hget : ∀ k, k < n → (dets nw 0 (l.take n))[k]? = (l[k]?).map fun o => if k ∈ nw then none else o.dst := by
    intro k hk
    rw [dets_get]
    simp [hk]
  -- the k-th of D
  have hDk : ∀ (k : Nat) (o : Oper) (v : Value), k < n → k ∉ nw → l[k]? = some o → vs[k]? = some v → D[k]? = some (o.dst, v) := by
    intro k o v hkn hnk ho hv
    rw [← hD, List.getElem?_zip_eq_some]
    refine ⟨?_, hv⟩
    rw [hget k hkn, ho]
    simp [hnk]
  have hDd : ∀ (k : Nat) (t : Tmp) (v : Value), D[k]? = some (some t, v) → k < n ∧ k ∉ nw ∧ ∃ o, l[k]? = some o ∧ o.dst = some t := by
    intro k t v hk
    have hkn : k < n := by rw [← hDl]; exact (List.getElem?_eq_some_iff.1 hk).1
    rw [← hD, List.getElem?_zip_eq_some] at hk
    obtain ⟨h1, _⟩ := hk
    rw [hget k hkn, Option.map_eq_some_iff] at h1
    obtain ⟨o, ho, hd⟩ := h1
    by_cases hnk : k ∈ nw
    · simp [hnk] at hd
    · rw [if_neg hnk] at hd
      exact ⟨hkn, hnk, o, ho, hd⟩
  have huniq : ∀ (j k : Nat) (t : Tmp) (u v : Value), k ≠ j → D[k]? = some (some t, u) → D[j]? ≠ some (some t, v) := by
    intro j k t u v hkj h1 h2
    obtain ⟨hkn, _, ok, hok', hdk⟩ := hDd k _ u h1
    obtain ⟨hjn, _, oj, hoj, hdj⟩ := hDd j _ v h2
    exact (g.pair k j ok oj t hkn hjn hkj (by simpa using hok') (by simpa using hoj) hdk).1 hdj
  -- .. with the new ones' values
  obtain ⟨F, hF⟩ : ∃ F : Sig → Nat → Option (Option Tmp × Value), ∀ σ k, F σ k = if k ∈ nw then (l[k]?).map fun o => (o.dst, (σ k).getD undef) else D[k]? := ⟨_, fun _ _ => rfl⟩
  have hFd : ∀ (σ : Sig) (k : Nat) (t : Tmp) (v : Value), F σ k = some (some t, v) → k < n ∧ ∃ o, l[k]? = some o ∧ o.dst = some t := by
    intro σ k t v hk
    rw [hF] at hk
    by_cases hnk : k ∈ nw
    · rw [if_pos hnk, Option.map_eq_some_iff] at hk
      obtain ⟨o, ho, hd⟩ := hk
      exact ⟨q.newLt k hnk, o, ho, by simp at hd; exact hd.1⟩
    · rw [if_neg hnk] at hk
      obtain ⟨h1, _, h3⟩ := hDd k t v hk
      exact ⟨h1, h3⟩
  have hFu : ∀ (σ : Sig) (j k : Nat) (t : Tmp) (u v : Value), k ≠ j → F σ k = some (some t, u) → F σ j ≠ some (some t, v) := by
    intro σ j k t u v hkj h1 h2
    obtain ⟨hkn, ok, hok', hdk⟩ := hFd σ k _ u h1
    obtain ⟨hjn, oj, hoj, hdj⟩ := hFd σ j _ v h2
    exact (g.pair k j ok oj t hkn hjn hkj (by simpa using hok') (by simpa using hoj) hdk).1 hdj
  have hend : ∀ (E : Nat → Prop) (a' : Act) (σ : Sig), (∀ k, k < n → E k) → Agree (F σ) E a a' → a' = putNew l nw σ (frames D a) := by
    intro E a' σ hall hA
    have hB := agree_frames D huniq a n (by omega)
    rw [List.take_of_length_le (by omega)] at hB
    obtain ⟨k1, k2⟩ := putNew_keeps l σ nw (frames D a)
    refine act_ext ?_ (hA.defers.trans (hB.defers.symm.trans k1.symm))
    apply Array.ext_getElem?
    intro t
    by_cases hts : t < a.tmps.size
    · by_cases hw : ∃ (k : Nat) (v : Value), F σ k = some (some t, v)
      · obtain ⟨k, v, hkv⟩ := hw
        obtain ⟨hkn, o, ho, hd⟩ := hFd σ k _ v hkv
        rw [hA.wrote k t v (hall k hkn) hkv hts]
        have hkv' := hkv
        rw [hF] at hkv
        by_cases hnk : k ∈ nw
        · rw [if_pos hnk, ho] at hkv
          simp at hkv
          rw [putNew_new l σ t k nw _ hnk (by simp [ho, hd]) (fun j hj hdj => ?_) (by rw [hB.size]; exact hts), hkv.2]
          by_cases hjk : j = k
          · exact hjk
          · exfalso
            cases hlj : l[j]? with
            | none => rw [hlj] at hdj; cases hdj
            | some oj =>
              rw [hlj] at hdj
              refine hFu σ j k t v ((σ j).getD undef) (Ne.symm hjk) hkv' ?_
              rw [hF, if_pos hj, hlj]
              simp at hdj
              simp [hdj]
        · rw [if_neg hnk] at hkv
          rw [putNew_old l σ t nw _ fun j hj hdj => ?_, hB.wrote k t v hkn hkv hts]
          cases hlj : l[j]? with
          | none => rw [hlj] at hdj; cases hdj
          | some oj =>
            rw [hlj] at hdj
            refine hFu σ j k t v ((σ j).getD undef) (fun e => hnk (e ▸ hj)) hkv' ?_
            rw [hF, if_pos hj, hlj]
            simp at hdj
            simp [hdj]
      · rw [hA.kept t fun k v _ hkv => hw ⟨k, v, hkv⟩, putNew_old l σ t nw _ fun j hj hdj => ?_, hB.kept t fun k v _ hkv => ?_]
        · obtain ⟨_, hnk, _⟩ := hDd k t v hkv
          exact hw ⟨k, v, by rw [hF, if_neg hnk]; exact hkv⟩
        · cases hlj : l[j]? with
          | none => rw [hlj] at hdj; cases hdj
          | some oj =>
            rw [hlj] at hdj
            refine hw ⟨j, (σ j).getD undef, ?_⟩
            rw [hF, if_pos hj, hlj]
            simp at hdj
            simp [hdj]
    · rw [Array.getElem?_eq_none (show a'.tmps.size ≤ t from by rw [hA.size]; exact Nat.le_of_not_lt hts), Array.getElem?_eq_none (show (putNew l nw σ (frames D a)).tmps.size ≤ t from by rw [k2, hB.size]; exact Nat.le_of_not_lt hts)]
  have main : ∀ (fuel : Nat) (listed : Array Bool) (a' : Act) (w' : World) (σ : Sig), listed.size = l.length → left listed = fuel → (∀ j, n ≤ j → j < l.length → listed.getD j true = false) →
      (∀ k o, k < l.length → listed.getD k true = true → l[k]? = some o → ∀ e ∈ o.after, Region.binds .any e = true → listed.getD e.on false = true) →
      (∀ k ∈ nw, (listed.getD k true = true → (σ k).isSome = true) ∧ (listed.getD k true = false → σ k = none)) →
      Agree (F σ) (fun k => k < n ∧ listed.getD k true = true) a a' → S σ w' → wpAny P .any l.toArray Q fuel listed a' w' := by
    intro fuel
    induction fuel with
    | zero =>
      intro listed a' w' σ hs hl ht hc hσ hA hSw
      have hall : ∀ k, k < l.length → listed.getD k true = true := fun k hk => by
        cases hkk : listed.getD k true with
        | true => rfl
        | false => have := left_pos (j := k) (by omega) hkk; omega
      have hn : n = l.length := by
        rcases Nat.lt_or_ge n l.length with h | h
        · have := hall n h; rw [ht n (Nat.le_refl _) h] at this; cases this
        · omega
      refine tail_any g 0 n listed a' w' hs (Nat.le_refl _) (fun k _ hk => hall k hk) ht hl ?_
      rw [hend _ a' σ (fun k hk => ⟨hk, hall k (by omega)⟩) hA]
      exact hR σ w' (fun k hk => (hσ k hk).1 (hall k (by have := q.newLt k hk; omega))) hSw
    | succ fuel ih =>
      intro listed a' w' σ hs hl ht hc hσ hA hSw
      by_cases hpre : ∀ k, k < n → listed.getD k true = true
      · refine tail_any g (fuel + 1) n listed a' w' hs (Nat.le_refl _) (fun k hk _ => hpre k hk) ht hl ?_
        rw [hend _ a' σ (fun k hk => ⟨hk, hpre k hk⟩) hA]
        exact hR σ w' (fun k hk => (hσ k hk).1 (hpre k (q.newLt k hk))) hSw
      · -- the least that is not listed is ready
        have hex : ∃ k, k < n ∧ listed.getD k true = false := by
          rcases Classical.em (∃ k, k < n ∧ listed.getD k true = false) with h | h
          · exact h
          · exact absurd (fun k hk => by
              cases hkk : listed.getD k true with
              | true => rfl
              | false => exact absurd ⟨k, hk, hkk⟩ h) hpre
        obtain ⟨m, hm, hmin⟩ : ∃ m, (m < n ∧ listed.getD m true = false) ∧ ∀ k, k < m → listed.getD k true = true := by
          obtain ⟨k, hk⟩ := hex
          induction k using Nat.strongRecOn with
          | _ k ihk =>
            rcases Classical.em (∃ j, j < k ∧ listed.getD j true = false) with ⟨j, hj, hjl⟩ | h
            · exact ihk j hj ⟨by omega, hjl⟩
            · refine ⟨k, hk, fun j hj => ?_⟩
              cases hjj : listed.getD j true with
              | true => rfl
              | false => exact absurd ⟨j, hj, hjj⟩ h
        obtain ⟨om, hom⟩ : ∃ o, l[m]? = some o := ⟨_, List.getElem?_eq_getElem (by omega)⟩
        have hready : m ∈ Region.ready .any l.toArray listed := mem_ready.2 ⟨by simp; omega, hm.2, om, by simpa using hom, fun e he hb => by
          have := g.low m om (by simpa using hom) e he hb
          rw [← getD_tf (by omega)]
          exact hmin _ this⟩
        refine ⟨fun h => (by rw [h] at hready; cases hready), fun i hi => ?_⟩
        obtain ⟨hi1, hi2, o, ho, hi3⟩ := mem_ready.1 hi
        have hi1 : i < l.length := by simpa using hi1
        have hol : l[i]? = some o := by simpa using ho
        have hin : i < n := by
          rcases Nat.lt_trichotomy i n with h | h | h
          · exact h
          · -- all that it waits for, and so all, are listed
            subst h
            have hall : ∀ d k, i - k = d → k < i → listed.getD k true = true := by
              intro d
              induction d using Nat.strongRecOn with
              | _ d ihd =>
                intro k hd hk
                obtain ⟨j, hkj, hji, oj, hoj, hwj⟩ := g.sink (by simpa using hi1) k hk (by simp)
                obtain ⟨e, he, hb, heq⟩ := waits_spec hwj
                rw [getD_tf (by omega), ← heq]
                rcases Nat.lt_or_ge j i with hlt | hge
                · have hjl := ihd (i - j) (by omega) j rfl hlt
                  exact hc j oj (by omega) hjl (by simpa using hoj) e he hb
                · have : j = i := by omega
                  subst this
                  rw [ho] at hoj
                  cases hoj
                  exact hi3 e he hb
            have := hall _ m rfl hm.1
            rw [hm.2] at this
            cases this
          · obtain ⟨e, he, hb, heq⟩ := waits_spec (g.chain i o h (by simpa using hol))
            have := hi3 e he hb
            rw [heq, ← getD_tf (by omega), ht (i - 1) (by omega) (by omega)] at this
            cases this
        obtain ⟨v, hv, hcase⟩ := hk i o (by simp [hin, hol])
        have hAi := agree_frames D huniq a i (by omega)
        obtain ⟨kp1, kp2⟩ := putNew_keeps l σ (eat i) (frames (D.take i) a)
        have hsame := same_op (ops := l.toArray) (o := o) (a := putNew l (eat i) σ (frames (D.take i) a)) (a' := a') (g.noSel i o ho) (by
          intro t htl
          by_cases hw : ∃ (k : Nat) (u : Value), F σ k = some (some t, u)
          · obtain ⟨k, u, hku⟩ := hw
            obtain ⟨hkn, ok, hok', hdk⟩ := hFd σ k _ u hku
            by_cases hnk : k ∈ nw
            · have hke := q.newApart k hnk ok t (by simpa using hok') hdk i o hin ho htl
              obtain ⟨_, _, hlt, hwt⟩ := q.eats i hin k hke
              obtain ⟨e, he, hb, heq⟩ := waits_spec (hwt o ho)
              have hkl : listed.getD k true = true := by
                rw [getD_tf (by omega), ← heq]; exact hi3 e he hb
              by_cases hts : t < a.tmps.size
              · rw [hA.wrote k t u ⟨hkn, hkl⟩ hku hts, putNew_new l σ t k (eat i) _ hke (by simp [hok', hdk]) (fun j hj hdj => ?_) (by rw [hAi.size]; exact hts)]
                · rw [hF, if_pos hnk, hok'] at hku
                  simp at hku
                  rw [hku.2]
                · by_cases hjk : j = k
                  · exact hjk
                  · exfalso
                    cases hlj : l[j]? with
                    | none => rw [hlj] at hdj; cases hdj
                    | some oj =>
                      rw [hlj] at hdj
                      refine hFu σ j k t u ((σ j).getD undef) (Ne.symm hjk) hku ?_
                      rw [hF, if_pos (q.eats i hin j hj).2.1, hlj]
                      simp at hdj
                      simp [hdj]
              · rw [Array.getElem?_eq_none (show a'.tmps.size ≤ t from by rw [hA.size]; exact Nat.le_of_not_lt hts), Array.getElem?_eq_none (show (putNew l (eat i) σ (frames (D.take i) a)).tmps.size ≤ t from by rw [kp2, hAi.size]; exact Nat.le_of_not_lt hts)]
            rw [putNew_old l σ t (eat i) _ (fun j hj hdj => by
              cases hlj : l[j]? with
              | none => rw [hlj] at hdj; cases hdj
              | some oj =>
                rw [hlj] at hdj
                refine hFu σ j k t u ((σ j).getD undef) (fun e => hnk (e ▸ (q.eats i hin j hj).2.1)) hku ?_
                rw [hF, if_pos (q.eats i hin j hj).2.1, hlj]
                simp at hdj
                simp [hdj])]
            have hDu : D[k]? = some (some t, u) := by rw [hF, if_neg hnk] at hku; exact hku
            by_cases hts : t < a.tmps.size
            · have hki : k ≠ i := fun e => by
                subst e
                rw [hol] at hok'
                cases hok'
                exact g.own k o t hkn ho hdk htl
              rcases (g.pair k i ok o t hkn hin hki (by simpa using hok') ho hdk).2 with h1 | ⟨hlt, hwt⟩ | ⟨hlt, hwt⟩
              · exact absurd htl h1
              · obtain ⟨e, he, hb, heq⟩ := waits_spec hwt
                have hkl : listed.getD k true = true := by
                  rw [getD_tf (by omega), ← heq]; exact hi3 e he hb
                rw [hA.wrote k t u ⟨hkn, hkl⟩ hku hts, hAi.wrote k t u hlt hDu hts]
              · obtain ⟨e, he, hb, heq⟩ := waits_spec hwt
                have hkl : ¬ listed.getD k true = true := fun hkl => by
                  have := hc k ok (by omega) hkl hok' e he hb
                  rw [heq, ← getD_tf (by omega), hi2] at this
                  cases this
                rw [hA.kept t fun k' u' hk' hD' => ?_, hAi.kept t fun k' u' hk' hD' => ?_]
                · by_cases hkk : k' = k
                  · subst hkk; omega
                  · exact huniq k k' t u' u hkk hD' hDu
                · by_cases hkk : k' = k
                  · subst hkk; exact hkl hk'.2
                  · exact hFu σ k k' t u' u hkk hD' hku
            · rw [Array.getElem?_eq_none (show a'.tmps.size ≤ t from by rw [hA.size]; exact Nat.le_of_not_lt hts), Array.getElem?_eq_none (show (frames (D.take i) a).tmps.size ≤ t from by rw [hAi.size]; exact Nat.le_of_not_lt hts)]
          · rw [putNew_old l σ t (eat i) _ (fun j hj hdj => by
              cases hlj : l[j]? with
              | none => rw [hlj] at hdj; cases hdj
              | some oj =>
                rw [hlj] at hdj
                refine hw ⟨j, (σ j).getD undef, ?_⟩
                rw [hF, if_pos (q.eats i hin j hj).2.1, hlj]
                simp at hdj
                simp [hdj]), hA.kept t fun k v _ hkv => hw ⟨k, v, hkv⟩, hAi.kept t fun k v _ hkv => ?_]
            obtain ⟨_, hnk, _⟩ := hDd k t v hkv
            exact hw ⟨k, v, by rw [hF, if_neg hnk]; exact hkv⟩)
        have hset : ∀ k b, (listed.setIfInBounds i true).getD k b = if k = i then true else listed.getD k b := by
          intro k b
          by_cases hki : k = i
          · subst hki; simp [hs, hi1]
          · have : i ≠ k := Ne.symm hki
            simp [Array.getElem?_setIfInBounds_ne this, hki]
        have next : ∀ (σ' : Sig) (u : Value) w'', F σ' i = some (o.dst, u) → Agree (F σ') (fun k => k < n ∧ listed.getD k true = true) a a' → (∀ k ∈ nw, ((listed.setIfInBounds i true).getD k true = true → (σ' k).isSome = true) ∧ ((listed.setIfInBounds i true).getD k true = false → σ' k = none)) → S σ' w'' →
            wpAny P .any l.toArray Q fuel (listed.setIfInBounds i true) (a'.put o.dst u) w'' := by
          intro σ' u w'' hFi hA' hσ' hSw''
          refine ih _ _ w'' σ' (by simpa using hs) (by have := left_set (j := i) (by omega) hi2; omega) ?_ ?_ hσ' ?_ hSw''
          · intro j hj hjl
            rw [hset, if_neg (by omega)]
            exact ht j hj hjl
          · intro k ok hkl hkt hok' e he hb
            rw [hset]
            split
            · rfl
            · rw [hset] at hkt
              by_cases hki : k = i
              · subst hki
                rw [hol] at hok'
                cases hok'
                exact hi3 e he hb
              · rw [if_neg hki] at hkt
                exact hc k ok hkl hkt hok' e he hb
          · have := hA'.put (j := i) hFi (fun k t u' hki hD' e => hFu σ' i k t u' u hki hD' (by rw [hFi, e]))
            refine ⟨this.defers, this.size, fun k t u hk => this.wrote k t u ?_, fun t ht => this.kept t fun k u hk => ht k u ?_⟩
            · obtain ⟨h1, h2⟩ := hk
              rw [hset] at h2
              by_cases hki : k = i
              · exact .inr hki
              · rw [if_neg hki] at h2; exact .inl ⟨h1, h2⟩
            · rw [hset]
              rcases hk with ⟨h1, h2⟩ | rfl
              · exact ⟨h1, by split <;> first | rfl | exact h2⟩
              · exact ⟨hin, by simp⟩
        have hσset : i ∉ nw → ∀ k ∈ nw, ((listed.setIfInBounds i true).getD k true = true → (σ k).isSome = true) ∧ ((listed.setIfInBounds i true).getD k true = false → σ k = none) := fun hni k hk => by
          rw [hset, if_neg (fun (e : k = i) => hni (e ▸ hk))]
          exact hσ k hk
        unfold wpOp
        simp only [ho]
        have hno : i ∉ nw → putNew l (eat i) σ (frames (D.take i) a) = frames (D.take i) a := fun hni => by
          cases he : eat i with
          | nil => rfl
          | cons k r => exact absurd (q.eats i hin k (by rw [he]; simp)).1 hni
        rcases hcase with ⟨hni, hn1⟩ | ⟨hni, hw1, hc1⟩ | ⟨hni, hw1, rfl⟩
        · have hg := q.newPlain i hni o ho
          rw [show Region.wanted o (yielded l.toArray a'.tmps) = true by simp [Region.wanted, hg]]
          refine .inl (hn1.at rfl hsame.1 (by rw [kp2, hAi.size, hA.size]) hSw ((hσ i hni).2 hi2) (fun k hke => (hσ k (q.eats i hin k hke).2.1).1 (by
            obtain ⟨e, he, hb, heq⟩ := waits_spec ((q.eats i hin k hke).2.2.2 o ho)
            have := (q.eats i hin k hke).2.2.1
            rw [getD_tf (by omega), ← heq]; exact hi3 e he hb)) _ _ fun u w'' hSu => ?_)
          refine next (σ.upd i u) u w'' (by rw [hF, if_pos hni, hol]; simp [Sig.upd]) ?_ ?_ hSu
          · have hne : ∀ k, (k < n ∧ listed.getD k true = true) → F (σ.upd i u) k = F σ k := fun k hk => by
              have hki : k ≠ i := fun e => by subst e; rw [hi2] at hk; cases hk.2
              rw [hF, hF]
              simp [Sig.upd, hki]
            exact ⟨hA.defers, hA.size, fun k t u' hk hD' => hA.wrote k t u' hk (by rw [← hne k hk]; exact hD'), fun t ht => hA.kept t fun k u' hk => by rw [← hne k hk]; exact ht k u' hk⟩
          · intro k hk
            rw [hset]
            by_cases hki : k = i
            · simp [Sig.upd, hki]
            · rw [if_neg hki]
              simpa [Sig.upd, hki] using hσ k hk
        · rw [hno hni] at hsame
          rw [hsame.2, hw1]
          exact .inl (hc1.at hsame.1 (by rw [hAi.size, hA.size]) hSw _ _ fun w'' hSu => next σ v w'' (by rw [hF, if_neg hni]; exact hDk i o v hin hni hol hv) hA (hσset hni) hSu)
        · rw [hno hni] at hsame
          rw [hsame.2, hw1]
          exact next σ undef w' (by rw [hF, if_neg hni]; exact hDk i o undef hin hni hol hv) hA (hσset hni) hSw
  refine main _ listed0 a w Sig.no hs0 rfl (fun j _ hj => hl0 j hj) (fun k o hk hkt => by rw [hl0 k hk] at hkt; cases hkt) (fun k hk => ⟨fun hkt => ?_, fun _ => rfl⟩) ?_ hS
  · have := q.newLt k hk
    rw [hl0 k (by omega)] at hkt
    cases hkt
  · refine ⟨rfl, rfl, fun k t v hk => ?_, fun t _ => rfl⟩
    have := hl0 k (by omega)
    rw [this] at hk
    cases hk.2
theorem wp_region_new {id : Nat} {Q : Exit → Act → World → Prop} {a : Act} {w : World} {l : List Oper} (S : Sig → World → Prop) (n : Nat) (nw : List Nat) (eat : Nat → List Nat) (hm : P.follows .mixedOrders = true) (hok : calmOk l.toArray n [] = true) (hek : eatOk l.toArray n nw eat = true) (hS : S Sig.no w.drew)
    (h : calm P l eat l.toArray S nw (fun a' => ∀ σ w', (∀ k ∈ nw, (σ k).isSome = true) → S σ w' → wpList P l.toArray Q (l.drop n) (putNew l nw σ a') w') 0 (l.take n) a) : (Code.region id l.toArray true).wp P Q a w := by
  refine wp_region_any hm ?_
  have hl := left_none l.toArray.size
  have := wpAny_new S n nw eat hok hek hS h (Array.replicate l.toArray.size false) (by simp) (fun k hk => by simp [hk])
  rw [hl] at this
  exact this


theorem calm_value {R : Act → Prop} {a : Act} {o : Oper} {rest : List Oper} {i : Nat} {v : Value} (hi : i ∉ nw) (hw : Region.wanted o (yielded ops a.tmps) = true) (h1 : ∀ σ w, S σ w → (execOp a.eval o).run P w = .ok (.value v) w) (h : calm P l eat ops S nw R (i + 1) rest (a.put o.dst v)) : calm P l eat ops S nw R i (o :: rest) a :=
  calm_step v hi hw (fun σ w hS K Q hK => by unfold Oper.wp; rw [h1 σ w hS]; exact hK w hS) h
theorem calm_newv {R : Act → Prop} {a : Act} {o : Oper} {rest : List Oper} {i : Nat} (hi : i ∈ nw) (h1 : ∀ σ w, S σ w → σ i = none → (∀ k ∈ eat i, (σ k).isSome = true) → ∃ v w', (execOp (putNew l (eat i) σ a).eval o).run P w = .ok (.value v) w' ∧ S (σ.upd i v) w') (h : calm P l eat ops S nw R (i + 1) rest a) : calm P l eat ops S nw R i (o :: rest) a :=
  calm_new hi (fun σ w hS hn he K Q hK => by
    obtain ⟨v, w', hr, hs⟩ := h1 σ w hS hn he
    unfold Oper.wp
    rw [hr]
    exact hK v w' hs) h
/-- An append whose second operand is the row that it eats. -/
theorem calm_appv {R : Act → Prop} {a : Act} {o : Oper} {rest : List Oper} {i k d : Nat} {v1 : Value} {t ty : TypeId} (hi : i ∈ nw) (he : eat i = [k]) (hk : (l[k]?).bind (·.dst) = some d) (s : Operand) (hgt : o.type = ty)
    (ho : o.op = .call { callee := .builtin .append, args := #[s, .tmp d], argTypes := #[t, t] }) (hs : ∀ r, (a.put (some d) r).eval s = v1) (hd : ∀ r, (a.put (some d) r).eval (.tmp d) = r)
    (h1 : ∀ σ w, S σ w → σ i = none → (σ k).isSome = true → ∃ r v' w', σ k = some r ∧ (Builtin.append_ #[t, t] ty #[v1, r]).run P w = .ok v' w' ∧ S (σ.upd i v') w') (h : calm P l eat ops S nw R (i + 1) rest a) : calm P l eat ops S nw R i (o :: rest) a :=
  calm_newv hi (fun σ w hS hn hE => by
    obtain ⟨r, v', w', e1, e2, e3⟩ := h1 σ w hS hn (hE k (by rw [he]; simp))
    refine ⟨v', w', ?_, e3⟩
    rw [he]
    simp only [putNew, List.foldl_cons, List.foldl_nil, hk, e1, Option.getD_some]
    unfold execOp
    simp only [ho, resolve, invoke, builtin, Sem.run_bind, Sem.run_pure, Result.andThen_ok, List.map_toArray, List.map_cons, List.map_nil, hs, hd, hgt, e2]) h
end
end Go.Proofs.Ytpbodonmiepilaa.Tre
/- split: the walk of Plan. -/
namespace Go.Proofs.Ytpbodonmiepilaa
open Go.RowKit

theorem bestInfo : (Try.prog.info? 49).map (fun i => (i.zero, i.size, i.bytes)) = some (some (.agg #[.int .i64 0, .int .i64 0, .int .i64 0]), 3, 24) := by kernel_rfl
theorem way_cells {w : World} {b o c i n : Nat} {l : List Way} {x : Way} (h : Rd w 3 (.slice (some ⟨b, o, none⟩) n c) n (rows bcell l)) (hx : l[i]? = some x) :
    w.cell? ⟨b, o + i * 3, none⟩ = some (.int .i64 (x.1 : Int)) ∧ w.cell? ⟨b, o + i * 3 + 1, none⟩ = some (.int .i64 x.2.1) ∧ w.cell? ⟨b, o + i * 3 + 2, none⟩ = some (.int .i64 x.2.2) := by
  have h0 := h.cell ((rows_get bcell bcell_length hx 0 (by omega)).trans rfl)
  have h1 := h.cell ((rows_get bcell bcell_length hx 1 (by omega)).trans rfl)
  have h2 := h.cell ((rows_get bcell bcell_length hx 2 (by omega)).trans rfl)
  exact ⟨h0, h1, h2⟩
/-- The state amid the two appends: a row, then the first append, which eats it; the second's row whenever. -/
def TwoS (w0 : World) (v1 : Value) (m : Nat) (X : List Int) (x y : Int) (ps : List Piece) (σ : Sig) (w : World) : Prop :=
  match σ 5, σ 6 with
  | none, none => Own w0 w (newR (.cells #[.int .i64 y] 3) 1 (σ 13) ++ (slc 3 1 v1 m (nums X) :: ps))
  | some r, none => Own w0 w (newR (.cells #[.int .i64 y] 3) 1 (σ 13) ++ (newR (.cells #[.int .i64 x] 3) 1 (some r) ++ (slc 3 1 v1 m (nums X) :: ps)))
  | some _, some v => Own w0 w (newR (.cells #[.int .i64 y] 3) 1 (σ 13) ++ (slc 3 1 v (m + 1) (nums (X ++ [x])) :: ps))
  | none, some _ => False
def eat6 (i : Nat) : List Nat := if i = 6 then [5] else []
theorem nums_snoc (X : List Int) (x : Int) : nums X ++ [.int .i64 x] = nums (X ++ [x]) := by simp [nums]
section
variable {w0 w : World} {v1 : Value} {m : Nat} {X : List Int} {x y : Int} {ps : List Piece} {σ : Sig}
theorem two_start (h : Own w0 w (slc 3 1 v1 m (nums X) :: ps)) : TwoS w0 v1 m X x y ps Sig.no w := h
theorem Own.to_row {v : Value} {o : Obj} {qs : List Piece} (h : Own w0 (w.alloc o) (blk w.heap.size o :: qs)) (hv : v = .slice (some ⟨w.heap.size, 0, none⟩) 1 1) : Own w0 (w.alloc o) (newR o 1 (some v) ++ qs) :=
  h.imp fun x hx => ⟨_, hv, hx⟩
theorem two_row (h : TwoS w0 v1 m X x y ps σ w) (h5 : σ 5 = none) : TwoS w0 v1 m X x y ps (σ.upd 5 (.slice (some ⟨w.heap.size, 0, none⟩) 1 1)) (w.alloc (.cells #[.int .i64 x] 3)) := by
  unfold TwoS at *
  have e6 : (σ.upd 5 (.slice (some ⟨w.heap.size, 0, none⟩) 1 1)) 6 = σ 6 := by simp [Sig.upd]
  have e13 : (σ.upd 5 (.slice (some ⟨w.heap.size, 0, none⟩) 1 1)) 13 = σ 13 := by simp [Sig.upd]
  have e5 : (σ.upd 5 (.slice (some ⟨w.heap.size, 0, none⟩) 1 1)) 5 = some (.slice (some ⟨w.heap.size, 0, none⟩) 1 1) := by simp [Sig.upd]
  rw [e6, e13, e5]
  rw [h5] at h
  cases h6 : σ 6 with
  | none =>
    rw [h6] at h
    exact ((h.alloc _).imp (q := fun z => ∃ g, Value.slice (some ⟨w.heap.size, 0, none⟩) 1 1 = .slice (some ⟨g, 0, none⟩) 1 1 ∧ z = [(g, .cells #[.int .i64 x] 3)]) fun z hz => ⟨_, rfl, hz⟩).perm List.perm_middle.symm
  | some v => rw [h6] at h; exact h.elim
theorem two_rowB (h : TwoS w0 v1 m X x y ps σ w) (h13 : σ 13 = none) : TwoS w0 v1 m X x y ps (σ.upd 13 (.slice (some ⟨w.heap.size, 0, none⟩) 1 1)) (w.alloc (.cells #[.int .i64 y] 3)) := by
  unfold TwoS at *
  have e6 : (σ.upd 13 (.slice (some ⟨w.heap.size, 0, none⟩) 1 1)) 6 = σ 6 := by simp [Sig.upd]
  have e5 : (σ.upd 13 (.slice (some ⟨w.heap.size, 0, none⟩) 1 1)) 5 = σ 5 := by simp [Sig.upd]
  have e13 : (σ.upd 13 (.slice (some ⟨w.heap.size, 0, none⟩) 1 1)) 13 = some (.slice (some ⟨w.heap.size, 0, none⟩) 1 1) := by simp [Sig.upd]
  rw [e6, e13, e5]
  rw [h13] at h
  cases h5 : σ 5 with
  | none =>
    cases h6 : σ 6 with
    | none => rw [h5, h6] at h; exact Own.to_row (h.alloc _) rfl
    | some v => rw [h5, h6] at h; exact h.elim
  | some r =>
    cases h6 : σ 6 with
    | none => rw [h5, h6] at h; exact Own.to_row (h.alloc _) rfl
    | some v => rw [h5, h6] at h; exact Own.to_row (h.alloc _) rfl
theorem two_app (h : TwoS w0 v1 m X x y ps σ w) (h6 : σ 6 = none) (h5 : (σ 5).isSome = true) (hm : m ≤ 1000000) :
    ∃ r v' w', σ 5 = some r ∧ (Builtin.append_ #[22, 22] 22 #[v1, r]).run Try.prog w = .ok v' w' ∧ TwoS w0 v1 m X x y ps (σ.upd 6 v') w' := by
  unfold TwoS at *
  rw [h6] at h
  obtain ⟨r, hr⟩ := Option.isSome_iff_exists.1 h5
  rw [hr] at h
  have h2 : Own w0 w (newR (.cells #[.int .i64 x] 3) 1 (some r) ++ (newR (.cells #[.int .i64 y] 3) 1 (σ 13) ++ (slc 3 1 v1 m (nums X) :: ps))) := h.perm List.perm_middle
  obtain ⟨g, rfl, h3⟩ := h2.newr
  have h4 : Own w0 w (slc 3 1 (.slice (some ⟨g, 0, none⟩) 1 1) 1 [.int .i64 x] :: (newR (.cells #[.int .i64 y] 3) 1 (σ 13) ++ (slc 3 1 v1 m (nums X) :: ps))) := h3.slc_mk rfl (by omega) (by simp [maxLen]) rfl rfl
  have h7 : Own w0 w (slc 3 1 v1 m (nums X) :: (newR (.cells #[.int .i64 y] 3) 1 (σ 13) ++ ps)) := h3.drop.perm List.perm_middle
  obtain ⟨i, hi, hz, hsize, hby⟩ := info_parts intInfo
  obtain ⟨v', w', hrun, h8⟩ := run_append_sep (P := Try.prog) (ty := 22) h7 Try.underlying22 hi hz hsize hby rfl (by decide) h4.rd (by simp [Value.oneCell']) (by simp [maxLen]; omega) (by omega)
  refine ⟨_, v', w', hr, hrun, ?_⟩
  have e6 : (σ.upd 6 v') 6 = some v' := by simp [Sig.upd]
  have e5 : (σ.upd 6 v') 5 = σ 5 := by simp [Sig.upd]
  have e13 : (σ.upd 6 v') 13 = σ 13 := by simp [Sig.upd]
  rw [e6, e13, e5, hr]
  rw [nums_snoc] at h8
  exact h8.perm List.perm_middle.symm
theorem two_end (h : TwoS w0 v1 m X x y ps σ w) (h6 : (σ 6).isSome = true) (h13 : (σ 13).isSome = true) :
    ∃ v g, σ 6 = some v ∧ σ 13 = some (.slice (some ⟨g, 0, none⟩) 1 1) ∧ Own w0 w (slc 3 1 (.slice (some ⟨g, 0, none⟩) 1 1) 1 [.int .i64 y] :: slc 3 1 v (m + 1) (nums (X ++ [x])) :: ps) := by
  unfold TwoS at *
  obtain ⟨v, hv⟩ := Option.isSome_iff_exists.1 h6
  obtain ⟨r, hr⟩ := Option.isSome_iff_exists.1 h13
  cases h5 : σ 5 with
  | none => rw [h5, hv] at h; exact h.elim
  | some q =>
    rw [h5, hv, hr] at h
    obtain ⟨g, rfl, h3⟩ := h.newr
    exact ⟨v, g, hv, hr, h3.slc_mk rfl (by omega) (by simp [maxLen]) rfl rfl⟩
theorem two_rest (h : TwoS w0 v1 m X x y ps σ w) : Own w0 w ps := by
  unfold TwoS at h
  cases h5 : σ 5 with
  | none =>
    cases h6 : σ 6 with
    | none => rw [h5, h6] at h; exact h.skip.drop
    | some v => rw [h5, h6] at h; exact h.elim
  | some q =>
    cases h6 : σ 6 with
    | none => rw [h5, h6] at h; exact h.skip.skip.drop
    | some v => rw [h5, h6] at h; exact h.skip.drop
end
end Go.Proofs.Ytpbodonmiepilaa
