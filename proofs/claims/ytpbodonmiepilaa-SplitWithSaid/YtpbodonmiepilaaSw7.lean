/-
  Texts of this claim, one behind the other: flate; Bits; Bits; flate; flate; inflate; inflate; split; lz; lz; split; Two slices of ints, held against one another; split; lz; Bits; The document's Reader; inflate, the document's; huff; huff.
-/
import Derived.Test.YtpbodonmiepilaaSw6
import Derived.Deep.OwnRows
import Derived.Test.YtpbodonmiepilaaRows
import Derived.WalkSpells
import Derived.WalkLawsBesides
import Derived.BigQuiet
import Derived.Deep.DeepCutAuto
import Derived.Deep.CutBlock
import Derived.Deep.LoopGhost
import Derived.Deep.QuietTactic
set_option linter.unusedVariables false
/- flate: the walk of rich. -/
namespace Go.Proofs.Ytpbodonmiepilaa
open Go.RowKit

set_option maxRecDepth 100000 in
set_option maxHeartbeats 25600000 in
theorem rich_any {w0 w : World} {ps : List Piece} {g : Nat} {bs : List Bool} {tv : Value} {l : List Tok} (last : Bool) (ht : Reads w0 ps 3 tv l.length (rows tcell l)) (hs : ∀ t ∈ l, TokOk t) (hln : l.length ≤ 1000000) (H : Own w0 w (Wtr g bs :: ps)) (hl : bs.length + 48 * l.length ≤ 35184372000000) :
    Calls Try.prog 38 #[.pointer (some ⟨g, 0, none⟩), tv, .bool last] w (Ret fun _ w' => Own w0 w' (Wtr g (bs ++ blockB l 2 last) :: ps)) := by
  obtain ⟨ta, tc, rfl, ht1, ht2⟩ := (ht w H.drop).shape
  obtain ⟨L, hL⟩ : ∃ L, Hid (richL l = L) := ⟨_, Lib.hid rfl⟩
  obtain ⟨D, hD⟩ : ∃ D, Hid (richD l = D) := ⟨_, Lib.hid rfl⟩
  obtain ⟨RS, hRS⟩ : ∃ RS, Hid (richR l = RS) := ⟨_, Lib.hid rfl⟩
  obtain ⟨RL, hRL⟩ : ∃ RL, Hid (runL RS = RL) := ⟨_, Lib.hid rfl⟩
  obtain ⟨SO, hSO⟩ : ∃ SO, Hid (sortedF RL = SO) := ⟨_, Lib.hid rfl⟩
  have mL := richL_made hs hln
  have mD := richD_made hs hln
  have okR := richR_ok hs hln
  have lenR := richR_len hs hln
  have oks : ∀ t ∈ l, SymOk (richL l) (richD l) t := fun t h => rich_sym hs hln h
  have oL := lit_ok hs hln
  have oD := dist_ok hs hln
  have hB : Hid (bs ++ blockB l 2 last = bs ++ headB last 2 ++ (sizesB L.length D.length SO.length ++ (lensB SO ++ (runsB RL RS ++ bodyB L D l)))) := Lib.hid (by
    unfold blockB richB
    rw [if_neg (by omega), hRS.out, hRL.out, hSO.out, hL.out, hD.out, List.append_assoc])
  rw [hB.out]
  rw [hRS.out] at okR lenR
  have mR := runL_made okR (by omega)
  have m7 := sorted_7 okR (by omega)
  have mS := sorted_len RL
  have oR := run_ok okR (by omega)
  rw [hL.out] at mL oks
  rw [hD.out] at mD oks
  rw [hRL.out] at mR m7
  rw [hSO.out] at m7 mS
  obtain ⟨N, hN⟩ : ∃ N, Hid (l.length = N) := ⟨_, Lib.hid rfl⟩
  have HS := Lib.hid hs
  have HT := Lib.hid ht
  have ML := Lib.hid mL
  have MD := Lib.hid mD
  have MR := Lib.hid mR
  have M7 := Lib.hid m7
  have OKR := Lib.hid okR
  have OKS := Lib.hid oks
  have OL := Lib.hid oL
  have OD := Lib.hid oD
  have OR := Lib.hid oR
  obtain ⟨hS1, hS2⟩ := mS
  have k0 := fun w1 h => counted2_any (ht w1 h) hs hln
  rw [hN.out] at HT ht1 hl hln k0 ⊢
  have K0 := Lib.hid k0
  clear hs ht mL mD okR oks oL oD mR m7 oR k0
  go_enter Try.func38, Try.ntmps38
  go_wp2_with fail
  refine (K0.out _ H.drop).mono ?_
  rintro e w1 ⟨_, rfl, v1, u1, rfl, J⟩
  replace H := H.join J
  clear J
  obtain ⟨a1, c1, rfl, -⟩ := H.rd.shape
  obtain ⟨a2, c2, rfl, -⟩ := (H.front 1 rfl).rd.shape
  have kl := lengths_any (L := 15) H.rd (by omega)
  have hel : errF (litFq l) 15 = 0 := errF_ok (by omega) (by rw [litFq_len]; omega) OL.out.freq (by rw [litFq_len]; decide)
  have hed : errF (distFq l) 15 = 0 := errF_ok (by omega) (by rw [distFq_len]; omega) OD.out.freq (by rw [distFq_len]; decide)
  rw [hel] at kl
  have KL := Lib.hid kl
  clear kl hel
  go_wp2_with fail
  refine KL.out.mono ?_
  rintro e w2 ⟨_, rfl, v3, rfl, J⟩
  replace H := H.join J
  clear J KL
  have kd := lengths_any (L := 15) (H.front 2 rfl).rd (by omega)
  rw [hed] at kd
  have KD := Lib.hid kd
  clear kd hed
  rw [OL.out.len, litFq_len] at H
  obtain ⟨g3, c3, rfl, -⟩ := H.at (by rw [nums_length, OL.out.len, litFq_len]; omega)
  go_wp2_with fail
  refine KD.out.mono ?_
  rintro e w3 ⟨_, rfl, v4, rfl, J⟩
  replace H := H.join J
  clear J KD
  rw [OD.out.len, distFq_len] at H
  obtain ⟨g4, c4, rfl, -⟩ := H.at (by rw [nums_length, OD.out.len, distFq_len]; omega)
  have H : Own w0 w3 (slc 3 1 (.slice (some ⟨g3, 0, none⟩) 286 c3) 286 (nums (resF (litFq l) 15)) :: slc 3 1 (.slice (some ⟨g4, 0, none⟩) 30 c4) 30 (nums (resF (distFq l) 15)) :: Wtr g bs :: ps) := ((((H.front 1 rfl).front 3 rfl).front 3 rfl).drop.drop)
  have kt := fun w1 (h : Own w0 w1 (slc 3 1 (.slice (some ⟨g3, 0, none⟩) 286 c3) 286 (nums (resF (litFq l) 15)) :: slc 3 1 (.slice (some ⟨g4, 0, none⟩) 30 c4) 30 (nums (resF (distFq l) 15)) :: Wtr g bs :: ps)) => trim_own 257 h (by rw [OL.out.len, litFq_len]) (by omega) (by omega)
  have kt2 := fun w1 (qs : List Piece) (h : Own w0 w1 (slc 3 1 (.slice (some ⟨g4, 0, none⟩) 30 c4) 30 (nums (resF (distFq l) 15)) :: qs)) => trim_own 1 h (by rw [OD.out.len, distFq_len]) (by omega) (by omega)
  rw [show trimF (resF (litFq l) 15) 257 = L from hL.out] at kt
  have hD2 : trimF (resF (distFq l) 15) 1 = D := hD.out
  simp only [hD2] at kt2
  have KT := Lib.hid kt
  have KT2 := Lib.hid kt2
  clear kt kt2 hD2
  go_wp2_with fail
  refine (KT.out _ H).mono ?_
  rintro e w4 ⟨_, rfl, rfl, H4⟩
  clear H
  go_wp2_with fail
  refine (KT2.out _ _ H4.swap).mono ?_
  rintro e w5 ⟨_, rfl, rfl, H⟩
  clear H4 KT KT2
  obtain ⟨nL, hnL⟩ : ∃ n, Hid (L.length = n) := ⟨_, Lib.hid rfl⟩
  obtain ⟨nD, hnD⟩ : ∃ n, Hid (D.length = n) := ⟨_, Lib.hid rfl⟩
  have hnL1 := ML.out.lo
  have hnL2 := ML.out.hi
  have hnD1 := MD.out.lo
  have hnD2 := MD.out.hi
  rw [hnL.out] at H hnL1 hnL2 ⊢
  rw [hnD.out] at H hnD1 hnD2 ⊢
  go_wp2_with fail
  have H5 := H.alloc (.cells #[.slice (some ⟨g3, 0, none⟩) nL c3, .slice (some ⟨g4, 0, none⟩) nD c4] 22)
  have hrow : Rd (w5.alloc (.cells #[.slice (some ⟨g3, 0, none⟩) nL c3, .slice (some ⟨g4, 0, none⟩) nD c4] 22)) 1 (.slice (some ⟨w5.heap.size, 0, none⟩) 2 2) 2 [.slice (some ⟨g3, 0, none⟩) nL c3, .slice (some ⟨g4, 0, none⟩) nD c4] := by
    refine ⟨rfl, _, _, rfl, Nat.le_refl _, by decide, by simp, fun ad had j u hu => ?_⟩
    obtain rfl := Option.some.inj had
    rw [Addr.add_lit, Nat.zero_add, H5.cell]
    simpa using hu
  have hcc := concat_any [L, D] [.slice (some ⟨g3, 0, none⟩) nL c3, .slice (some ⟨g4, 0, none⟩) nD c4] hrow rfl rfl (by omega) (fun k u X hu hX => by
    match k with
    | 0 => cases hu; cases hX; rw [hnL.out]; exact (H5.front 2 rfl).rd
    | 1 => cases hu; cases hX; rw [hnD.out]; exact (H5.front 1 rfl).rd
    | k + 2 => cases hu) (by simp [hnL.out, hnD.out]; omega)
  have hfl : [L, D].flatten = L ++ D := by simp
  have hfll : (L ++ D).length = nL + nD := by rw [List.length_append, hnL.out, hnD.out]
  rw [hfl, hfll] at hcc
  have HCC := Lib.hid hcc
  have H6 : Own w0 (w5.alloc (.cells #[.slice (some ⟨g3, 0, none⟩) nL c3, .slice (some ⟨g4, 0, none⟩) nD c4] 22)) (slc 3 1 (.slice (some ⟨g3, 0, none⟩) nL c3) nL (nums L) :: slc 3 1 (.slice (some ⟨g4, 0, none⟩) nD c4) nD (nums D) :: Wtr g bs :: ps) := (H5.drop).swap
  clear hcc hrow H5 H hfl hfll
  generalize w5.alloc _ = w6 at *
  generalize w5.heap.size = gr at *
  refine HCC.out.mono ?_
  rintro e w7 ⟨v7, rfl, J⟩
  have H := H6.join J
  clear J HCC H6
  have hrn := runs_any H.rd (by omega)
  rw [show runsF (L ++ D) = RS by rw [← hRS.out, ← hL.out, ← hD.out]; rfl] at hrn
  have HRN := Lib.hid hrn
  clear hrn
  obtain ⟨a7, c7, rfl, -⟩ := H.rd.shape
  obtain ⟨nR, hnR⟩ : ∃ n, Hid (RS.length = n) := ⟨_, Lib.hid rfl⟩
  rw [hnR.out] at HRN lenR
  go_wp2_with fail
  refine HRN.out.mono ?_
  rintro e w8 ⟨v8, rfl, J⟩
  have H8 := H.join J
  clear J HRN H
  obtain ⟨a8, c8, rfl, -⟩ := H8.rd.shape
  have H : Own w0 w8 (slc 100 3 (.slice a8 nR c8) nR (rows rcell RS) :: slc 3 1 (.slice (some ⟨g3, 0, none⟩) nL c3) nL (nums L) :: slc 3 1 (.slice (some ⟨g4, 0, none⟩) nD c4) nD (nums D) :: Wtr g bs :: ps) := ((H8.front 1 rfl).drop)
  clear H8
  have hmk : ∀ w : World, (Instr.makeSlice 22 (.int .i64 19) (.int .i64 19)).run Try.prog w = .ok (.slice (some ⟨w.heap.size, 0, none⟩) 19 19) (w.alloc (.cells (madeCells #[.int .i64 0] 19) 3)) := run_make_row' _ _ _ 8 Try.underlying22 intInfo rfl .i64 .i64 19 (by omega) (by omega)
  go_upto_region 6 with (fail)
  have h9 := (H.alloc (.cells (madeCells #[.int .i64 0] 19) 3)).slc_mk (xs := nums (runFq (RS.take 0))) (n := 19) (size := 1) (by rw [nums_length, runFq_len]) (Nat.le_refl _) (by simp [maxLen]) (by simp [size_madeCells]) (by rw [toList_madeCells_one]; rfl)
  clear H hmk
  generalize w8.alloc _ = w9 at *
  generalize w8.heap.size = gf at *
  have H := h9
  clear h9
  go_wp2_with fail
  go_loopw [53] (fun s53 wx => ∃ k : Nat, s53 = .int .i64 k ∧ k ≤ nR ∧ Own w0 wx (slc 3 1 (.slice (some ⟨gf, 0, none⟩) 19 19) 19 (nums (runFq (RS.take k))) :: slc 100 3 (.slice a8 nR c8) nR (rows rcell RS) :: slc 3 1 (.slice (some ⟨g3, 0, none⟩) nL c3) nL (nums L) :: slc 3 1 (.slice (some ⟨g4, 0, none⟩) nD c4) nD (nums D) :: Wtr g bs :: ps)) (fun s53 _ => nR - (intOf s53).toNat)
  case atStart => exact ⟨0, by go_num, by omega, H⟩
  case round =>
    clear H
    obtain ⟨k, rfl, hk, H⟩ := hrel
    by_cases hlt : k < nR
    · have hI : (k : Int) < (nR : Int) := by omega
      obtain ⟨t, htk⟩ := get_of_lt (l := RS) (k := k) (by rw [hnR.out]; exact hlt)
      have hok := OKR.out t (List.mem_of_getElem? htk)
      have hls := made_freq RS k t htk
      obtain ⟨b, o, _, he2, -⟩ := (H.front 1 rfl).rd.some (by rw [rows_length rcell rcell_length, hnR.out]; omega)
      cases he2
      obtain ⟨c0, cc1, cc2⟩ := run_cells (H.front 1 rfl).rd htk
      have hkl : Hid (∀ j, 0 ≤ (runFq (RS.take k)).getD j 0 ∧ (runFq (RS.take k)).getD j 0 ≤ 100000) := Lib.hid (fun j => by
        rw [runFq_get (fun r h => OKR.out r (List.mem_of_mem_take h))]
        have := List.countP_le_length (p := fun x : Int => decide (x = (j : Int))) (l := (RS.take k).map Run.sym)
        rw [List.length_map, List.length_take] at this
        omega)
      have hfl := runFq_len (RS.take k)
      obtain ⟨hsy, -, -⟩ := hok
      obtain ⟨x, y, z⟩ := t
      simp only at c0 cc1 cc2 hsy hls
      obtain ⟨s, rfl⟩ : ∃ s : Nat, x = s := ⟨x.toNat, by omega⟩
      have hst := nums_bump (runFq (RS.take k)) s
      rw [← hls] at hst
      have cf := H.getc (nums_get (getD_get (F := runFq (RS.take k)) (i := s) (by omega)))
      have hb := hkl.out s
      obtain ⟨v, hv⟩ : ∃ v, (runFq (RS.take k)).getD s 0 = v := ⟨_, rfl⟩
      rw [hv] at hb cf hst
      have hw : IntKind.i64.wrap (v + 1) = v + 1 := IntWalk.i64_in _ ⟨by omega, by omega⟩
      have hsI : (s : Int) < 19 := by omega
      have HST := Lib.hid hst
      have hs19 : s < 19 := by omega
      have CF := Lib.hid (show (nums (runFq (RS.take k)))[s]? = some (.int .i64 v) by rw [← hv]; exact nums_get (getD_get (by omega)))
      clear htk hls hkl hfl hv hst cf
      go_upto_region 9 with (refine wpList_store_agg (vs := [.int .i64 s, .int .i64 y, .int .i64 z]) rfl _ _ rfl rfl (H.alloc _) rfl (by kernel_rfl) (by simp) (by simp; exact ⟨rfl, rfl, rfl⟩) rfl ?_; clear c0 cc1 cc2; intro w10 H10)
      clear H
      generalize wr.heap.size = tb at *
      have c0 := H10.cells
      have cf := (H10.front 1 rfl).getc CF.out
      go_wp2_with (refine wpList_store_slc rfl _ _ rfl rfl (H10.front 1 rfl) (.int .i64 (v + 1)) rfl (by kernel_rfl) hs19 rfl ?_; clear H10 c0 cf; intro w11 H; rw [HST.out] at H)
      go_roundw
      case rel => exact ⟨k + 1, by go_num, by omega, H.swap.drop⟩
      case measure => simp [intOf]; omega
    · obtain rfl : k = nR := by omega
      have hI : ¬ (k : Int) < (k : Int) := by omega
      have htk : RS.take k = RS := List.take_of_length_le (by rw [hnR.out]; exact Nat.le_refl _)
      rw [htk] at H
      have kl := lengths_any (L := 7) H.rd (by omega)
      have hel : errF (runFq RS) 7 = 0 := errF_ok (by omega) (by rw [runFq_len]; omega) OR.out.freq (by rw [runFq_len]; decide)
      have hrl : resF (runFq RS) 7 = RL := hRL.out
      have hrll : RL.length = 19 := by have := MR.out.lo; have := MR.out.hi; omega
      rw [hel, hrl, hrll] at kl
      have KL := Lib.hid kl
      have HRLL := Lib.hid hrll
      clear kl hel hrl htk hrll
      go_wp2_with fail
      refine KL.out.mono ?_
      rintro e w12 ⟨_, rfl, v5, rfl, J⟩
      replace H := H.join J
      clear J KL
      obtain ⟨g5, c5, rfl, -⟩ := H.at (by rw [nums_length, HRLL.out]; omega)
      have H : Own w0 w12 (slc 3 1 (.slice (some ⟨g5, 0, none⟩) 19 c5) 19 (nums RL) :: slc 100 3 (.slice a8 k c8) k (rows rcell RS) :: slc 3 1 (.slice (some ⟨g3, 0, none⟩) nL c3) nL (nums L) :: slc 3 1 (.slice (some ⟨g4, 0, none⟩) nD c4) nD (nums D) :: Wtr g bs :: ps) := ((H.front 1 rfl).drop)
      go_wp2_with fail
      refine (order_any _).mono ?_
      rintro e w13 ⟨_, rfl, rfl, J⟩
      have H : Own w0 w13 (slc 3 1 (.slice (some ⟨g5, 0, none⟩) 19 c5) 19 (nums RL) :: slc 100 3 (.slice a8 k c8) k (rows rcell RS) :: slc 3 1 (.slice (some ⟨g3, 0, none⟩) nL c3) nL (nums L) :: slc 3 1 (.slice (some ⟨g4, 0, none⟩) nD c4) nD (nums D) :: Wtr g bs :: ps) := H.join J
      clear J
      have hord : Hid (∀ j, j < 19 → (nums (ordF.map Int.ofNat)).toArray[j]? = some (.int .i64 ((ordF.getD j 0 : Nat) : Int)) ∧ ordF.getD j 0 < 19) := Lib.hid (fun j hj => by
        have := (show ∀ j : Fin 19, ordF.getD j.1 0 < 19 ∧ (ordF.map Int.ofNat)[j.1]? = some ((ordF.getD j.1 0 : Nat) : Int) by decide) ⟨j, hj⟩
        refine ⟨?_, this.1⟩
        rw [List.getElem?_toArray]
        exact nums_get this.2)
      have hordl : Hid ((nums (ordF.map Int.ofNat)).toArray.size = 19) := Lib.hid rfl
      generalize (nums (ordF.map Int.ofNat)).toArray = OA at *
      replace H := H.nil 3 1
      go_wp2_with fail
      obtain ⟨MO, hMO0⟩ : ∃ MO, Hid ((ordF.map fun s => RL.getD s 0) = MO) := ⟨_, Lib.hid rfl⟩
      have hMO : Hid (MO.length = 19) := Lib.hid (by rw [← hMO0.out, List.length_map]; rfl)
      have hMg : Hid (∀ j, j < 19 → MO.getD j 0 = RL.getD (ordF.getD j 0) 0) := Lib.hid (fun j hj => by
        rw [← hMO0.out, List.getD_eq_getElem?_getD, List.getElem?_map, List.getD_eq_getElem?_getD (l := ordF)]
        rw [List.getElem?_eq_getElem (show j < ordF.length from hj)]
        rfl)
      have hSO2 : Hid (trimF MO 4 = SO) := Lib.hid (by rw [← hMO0.out]; exact hSO.out)
      go_loopw [18, 71] (fun s18 s71 wx => ∃ i : Nat, s71 = .int .i64 i ∧ i ≤ 19 ∧ Own w0 wx (slc 3 1 s18 i (nums (MO.take i)) :: slc 3 1 (.slice (some ⟨g5, 0, none⟩) 19 c5) 19 (nums RL) :: slc 100 3 (.slice a8 k c8) k (rows rcell RS) :: slc 3 1 (.slice (some ⟨g3, 0, none⟩) nL c3) nL (nums L) :: slc 3 1 (.slice (some ⟨g4, 0, none⟩) nD c4) nD (nums D) :: Wtr g bs :: ps)) (fun _ s71 _ => 19 - (intOf s71).toNat)
      case atStart => exact ⟨0, by go_num, by omega, H⟩
      case round =>
        clear H
        obtain ⟨i, rfl, hi, H⟩ := hrel
        obtain ⟨a9, c9, rfl, -⟩ := H.rd.shape
        by_cases hi19 : i < 19
        · have hiI : (i : Int) < 19 := by omega
          obtain ⟨ho1, ho2⟩ := hord.out i hi19
          have hmg := hMg.out i hi19
          have hsn : Hid (nums (MO.take i) ++ [.int .i64 (MO.getD i 0)] = nums (MO.take (i + 1))) := Lib.hid (by
            rw [List.take_add_one, getD_get (by rw [hMO.out]; exact hi19)]; simp [nums])
          have cr := (H.front 1 rfl).getc (nums_get (getD_get (F := RL) (i := ordF.getD i 0) (by rw [HRLL.out]; exact ho2)))
          rw [← hmg] at cr
          have hix : ∀ w, (Instr.index 101 (.agg OA) (.int .i64 i)).run Try.prog w = .ok (.int .i64 ((ordF.getD i 0 : Nat) : Int)) w := fun w => run_index_arr _ _ 19 OA i _ w Try.underlying101 (fun w => (int_one w).1) (fun w => (int_one w).2) hi19 ho1
          have ho2I : ((ordF.getD i 0 : Nat) : Int) < 19 := by omega
          obtain ⟨oj, hoj⟩ : ∃ oj, ordF.getD i 0 = oj := ⟨_, rfl⟩
          obtain ⟨mv, hmv⟩ : ∃ mv, MO.getD i 0 = mv := ⟨_, rfl⟩
          rw [hoj] at ho1 ho2 ho2I cr hix
          rw [hmv] at hsn cr
          clear hoj hmv
          clear hmg
          go_wp2_with (at_builtin; refine wpList_append_one rfl _ _ rfl Try.underlying22 intInfo rfl (by decide) rfl H (news := [.int .i64 mv]) rfl rfl rfl (by simp [Value.oneCell']) (by omega) (by omega) ?_; clear H cr; intro v' w' H; rw [hsn.out] at H; obtain ⟨a10, c10, rfl, -⟩ := H.rd.shape)
          go_roundw
          case rel => exact ⟨i + 1, by go_num, by omega, H⟩
          case measure => simp [intOf]; omega
        · obtain rfl : i = 19 := by omega
          have hiI : ¬ (((19 : Nat) : Int) < 19) := by omega
          rw [List.take_of_length_le (by rw [hMO.out]; exact Nat.le_refl _)] at H
          obtain ⟨g6, c6, he6, -⟩ := H.at (by rw [nums_length, hMO.out]; omega)
          cases he6
          have kt := fun w1 (h : Own w0 w1 (slc 3 1 (.slice (some ⟨g6, 0, none⟩) 19 c9) 19 (nums MO) :: slc 3 1 (.slice (some ⟨g5, 0, none⟩) 19 c5) 19 (nums RL) :: slc 100 3 (.slice a8 k c8) k (rows rcell RS) :: slc 3 1 (.slice (some ⟨g3, 0, none⟩) nL c3) nL (nums L) :: slc 3 1 (.slice (some ⟨g4, 0, none⟩) nD c4) nD (nums D) :: Wtr g bs :: ps)) => trim_own 4 h hMO.out (by omega) (by omega)
          rw [hSO2.out] at kt
          have KT := Lib.hid kt
          clear kt
          go_wp2_with fail
          refine (KT.out _ H).mono ?_
          rintro e w14 ⟨_, rfl, rfl, H14⟩
          clear H KT
          obtain ⟨nS, hnS⟩ : ∃ n, Hid (SO.length = n) := ⟨_, Lib.hid rfl⟩
          rw [hnS.out] at H14 hS1 hS2 ⊢
          have H : Own w0 w14 (Wtr g bs :: slc 3 1 (.slice (some ⟨g6, 0, none⟩) nS c9) nS (nums SO) :: slc 3 1 (.slice (some ⟨g5, 0, none⟩) 19 c5) 19 (nums RL) :: slc 100 3 (.slice a8 k c8) k (rows rcell RS) :: slc 3 1 (.slice (some ⟨g3, 0, none⟩) nL c3) nL (nums L) :: slc 3 1 (.slice (some ⟨g4, 0, none⟩) nD c4) nD (nums D) :: ps) := H14.front 5 rfl
          clear H14
          go_wp2_with fail
          have k1 := fun w1 h => head_any (w := w1) (w0 := w0) (ps := slc 3 1 (.slice (some ⟨g6, 0, none⟩) nS c9) nS (nums SO) :: slc 3 1 (.slice (some ⟨g5, 0, none⟩) 19 c5) 19 (nums RL) :: slc 100 3 (.slice a8 k c8) k (rows rcell RS) :: slc 3 1 (.slice (some ⟨g3, 0, none⟩) nL c3) nL (nums L) :: slc 3 1 (.slice (some ⟨g4, 0, none⟩) nD c4) nD (nums D) :: ps) (g := g) (bs := bs) last 2 (by omega) h (by omega)
          obtain ⟨W1, hW1⟩ : ∃ W, Hid (bs ++ headB last 2 = W) := ⟨_, Lib.hid rfl⟩
          have hW1l : W1.length = bs.length + 3 := by rw [← hW1.out, List.length_append]; simp [headB, bitsOf_length]
          rw [hW1.out] at k1
          have e1 : (nL : Int) - 256 - 1 = (nL : Int) - 257 := by omega
          have k2 := fun w1 h => put_any (w := w1) (w0 := w0) (ps := slc 3 1 (.slice (some ⟨g6, 0, none⟩) nS c9) nS (nums SO) :: slc 3 1 (.slice (some ⟨g5, 0, none⟩) 19 c5) 19 (nums RL) :: slc 100 3 (.slice a8 k c8) k (rows rcell RS) :: slc 3 1 (.slice (some ⟨g3, 0, none⟩) nL c3) nL (nums L) :: slc 3 1 (.slice (some ⟨g4, 0, none⟩) nD c4) nD (nums D) :: ps) (g := g) (bs := W1) ((nL : Int) - 256 - 1) 5 (by omega) (by omega) h (by omega)
          have k3 := fun w1 h => put_any (w := w1) (w0 := w0) (ps := slc 3 1 (.slice (some ⟨g6, 0, none⟩) nS c9) nS (nums SO) :: slc 3 1 (.slice (some ⟨g5, 0, none⟩) 19 c5) 19 (nums RL) :: slc 100 3 (.slice a8 k c8) k (rows rcell RS) :: slc 3 1 (.slice (some ⟨g3, 0, none⟩) nL c3) nL (nums L) :: slc 3 1 (.slice (some ⟨g4, 0, none⟩) nD c4) nD (nums D) :: ps) (g := g) (bs := W1 ++ bitsOf ((nL : Int) - 257) 5) ((nD : Int) - 1) 5 (by omega) (by omega) h (by rw [List.length_append, bitsOf_length]; omega)
          have k4 := fun w1 h => put_any (w := w1) (w0 := w0) (ps := slc 3 1 (.slice (some ⟨g6, 0, none⟩) nS c9) nS (nums SO) :: slc 3 1 (.slice (some ⟨g5, 0, none⟩) 19 c5) 19 (nums RL) :: slc 100 3 (.slice a8 k c8) k (rows rcell RS) :: slc 3 1 (.slice (some ⟨g3, 0, none⟩) nL c3) nL (nums L) :: slc 3 1 (.slice (some ⟨g4, 0, none⟩) nD c4) nD (nums D) :: ps) (g := g) (bs := W1 ++ bitsOf ((nL : Int) - 257) 5 ++ bitsOf ((nD : Int) - 1) 5) ((nS : Int) - 4) 4 (by omega) (by omega) h (by rw [List.length_append, List.length_append, bitsOf_length, bitsOf_length]; omega)
          rw [show cut 5 = 5 from rfl, e1] at k2
          rw [show cut 5 = 5 from rfl] at k3
          rw [show cut 4 = 4 from rfl] at k4
          obtain ⟨W2, hW2⟩ : ∃ W, Hid (W1 ++ bitsOf ((nL : Int) - 257) 5 ++ bitsOf ((nD : Int) - 1) 5 ++ bitsOf ((nS : Int) - 4) 4 = W) := ⟨_, Lib.hid rfl⟩
          have hW2l : W2.length = bs.length + 17 := by rw [← hW2.out]; simp only [List.length_append, bitsOf_length]; omega
          have hW2b : Hid (W1 ++ sizesB nL nD nS = W2) := Lib.hid (by rw [← hW2.out]; unfold sizesB; simp only [List.append_assoc])
          rw [hW2.out] at k4
          have hw1 : IntKind.i64.wrap ((nL : Int) - 256) = (nL : Int) - 256 := IntWalk.i64_in _ ⟨by omega, by omega⟩
          have hw2 : IntKind.i64.wrap ((nL : Int) - 256 - 1) = (nL : Int) - 257 := by rw [e1]; exact IntWalk.i64_in _ ⟨by omega, by omega⟩
          have hw3 : IntKind.i64.wrap ((nD : Int) - 1) = (nD : Int) - 1 := IntWalk.i64_in _ ⟨by omega, by omega⟩
          have hw4 : IntKind.i64.wrap ((nS : Int) - 4) = (nS : Int) - 4 := IntWalk.i64_in _ ⟨by omega, by omega⟩
          have K1 := Lib.hid k1
          have K2 := Lib.hid k2
          have K3 := Lib.hid k3
          have K4 := Lib.hid k4
          clear k1 k2 k3 k4 e1
          refine (K1.out _ H).mono ?_
          rintro e w15 ⟨_, rfl, H15⟩
          clear H
          go_wp2_with fail
          refine (K2.out _ H15).mono ?_
          rintro e w16 ⟨_, rfl, H⟩
          clear H15
          go_wp2_with fail
          refine (K3.out _ H).mono ?_
          rintro e w17 ⟨_, rfl, H17⟩
          clear H
          go_wp2_with fail
          refine (K4.out _ H17).mono ?_
          rintro e w18 ⟨_, rfl, H⟩
          clear H17 K1 K2 K3 K4 hw1 hw2 hw3 hw4
          go_wp2_with fail
          go_loopw [105] (fun s105 wx => ∃ j : Nat, s105 = .int .i64 j ∧ j ≤ nS ∧ Own w0 wx (Wtr g (W2 ++ lensB (SO.take j)) :: slc 3 1 (.slice (some ⟨g6, 0, none⟩) nS c9) nS (nums SO) :: slc 3 1 (.slice (some ⟨g5, 0, none⟩) 19 c5) 19 (nums RL) :: slc 100 3 (.slice a8 k c8) k (rows rcell RS) :: slc 3 1 (.slice (some ⟨g3, 0, none⟩) nL c3) nL (nums L) :: slc 3 1 (.slice (some ⟨g4, 0, none⟩) nD c4) nD (nums D) :: ps)) (fun s105 _ => nS - (intOf s105).toNat)
          case atStart => exact ⟨0, by go_num, by omega, by simpa [lensB] using H⟩
          case round =>
            clear H
            obtain ⟨j, rfl, hj, H⟩ := hrel
            have hll : (lensB (SO.take j)).length ≤ 3 * 19 := by
              have h1 := flat_le (f := fun n => bitsOf n 3) (b := 3) (SO.take j) (fun x _ => by rw [bitsOf_length]; exact Nat.le_refl _)
              rw [List.length_take] at h1
              unfold lensB
              omega
            by_cases hjl : j < nS
            · have hjI : (j : Int) < (nS : Int) := by omega
              have hjS : j < SO.length := by rw [hnS.out]; exact hjl
              have cs := (H.front 1 rfl).getc (nums_get (getD_get hjS))
              have hx7 := M7.out _ (mem_getD2 hjS)
              have hsn : Hid (W2 ++ lensB (SO.take (j + 1)) = W2 ++ lensB (SO.take j) ++ bitsOf (SO.getD j 0) 3) := Lib.hid (by rw [lensB_succ hjS, List.append_assoc])
              obtain ⟨xv, hxv⟩ : ∃ xv, SO.getD j 0 = xv := ⟨_, rfl⟩
              rw [hxv] at cs hx7 hsn
              have k1 := fun w1 h => put_any (w := w1) (w0 := w0) (ps := slc 3 1 (.slice (some ⟨g6, 0, none⟩) nS c9) nS (nums SO) :: slc 3 1 (.slice (some ⟨g5, 0, none⟩) 19 c5) 19 (nums RL) :: slc 100 3 (.slice a8 k c8) k (rows rcell RS) :: slc 3 1 (.slice (some ⟨g3, 0, none⟩) nL c3) nL (nums L) :: slc 3 1 (.slice (some ⟨g4, 0, none⟩) nD c4) nD (nums D) :: ps) (g := g) (bs := W2 ++ lensB (SO.take j)) xv 3 (by omega) (by omega) h (by rw [List.length_append]; omega)
              rw [show cut 3 = 3 from rfl, ← hsn.out] at k1
              have K1 := Lib.hid k1
              clear k1 hxv hll
              go_wp2_with fail
              refine (K1.out _ H).mono ?_
              rintro e w19 ⟨_, rfl, H19⟩
              clear H cs
              go_wp2_with fail
              go_roundw
              case rel => exact ⟨j + 1, by go_num, by omega, H19⟩
              case measure => simp [intOf]; omega
            · obtain rfl : j = nS := by omega
              have hjI : ¬ (j : Int) < (j : Int) := by omega
              rw [List.take_of_length_le (by rw [hnS.out]; exact Nat.le_refl _)] at H hll
              obtain ⟨W3, hW3⟩ : ∃ W, Hid (W2 ++ lensB SO = W) := ⟨_, Lib.hid rfl⟩
              have hW3l : W3.length ≤ bs.length + 74 := by rw [← hW3.out, List.length_append]; omega
              rw [hW3.out] at H
              have km := fun w1 h => made_any (w := w1) (v := .slice (some ⟨g5, 0, none⟩) 19 c5) (n := 19) (L := RL) h (by omega) MR.out.cerr
              rw [HRLL.out] at km
              have KM := Lib.hid km
              clear km hll
              go_wp2_with fail
              refine (KM.out _ (H.front 2 rfl).rd).mono ?_
              rintro e w20 ⟨_, rfl, u11, rfl, J⟩
              replace H := H.join J
              clear J KM
              obtain ⟨a11, c11, rfl, -⟩ := H.rd.shape
              go_upto_region 29 with (refine wpList_store_agg (vs := [.slice (some ⟨g5, 0, none⟩) 19 c5, .slice a11 19 c11]) rfl _ _ rfl rfl (H.alloc _) rfl (by kernel_rfl) (by simp) (by simp; exact ⟨rfl, rfl⟩) rfl ?_; intro w21 H21)
              clear H
              generalize w20.heap.size = gc at *
              have H : Own w0 w21 (Wtr g W3 :: blk gc (.cells #[.slice (some ⟨g5, 0, none⟩) 19 c5, .slice a11 19 c11] 75) :: slc 3 1 (.slice a11 19 c11) 19 (nums (codesF RL)) :: slc 3 1 (.slice (some ⟨g6, 0, none⟩) j c9) j (nums SO) :: slc 3 1 (.slice (some ⟨g5, 0, none⟩) 19 c5) 19 (nums RL) :: slc 100 3 (.slice a8 k c8) k (rows rcell RS) :: slc 3 1 (.slice (some ⟨g3, 0, none⟩) nL c3) nL (nums L) :: slc 3 1 (.slice (some ⟨g4, 0, none⟩) nD c4) nD (nums D) :: ps) := H21.front 2 rfl
              clear H21
              have hco : CodOk w0 (blk gc (.cells #[.slice (some ⟨g5, 0, none⟩) 19 c5, .slice a11 19 c11] 75) :: slc 3 1 (.slice a11 19 c11) 19 (nums (codesF RL)) :: slc 3 1 (.slice (some ⟨g6, 0, none⟩) j c9) j (nums SO) :: slc 3 1 (.slice (some ⟨g5, 0, none⟩) 19 c5) 19 (nums RL) :: slc 100 3 (.slice a8 k c8) k (rows rcell RS) :: slc 3 1 (.slice (some ⟨g3, 0, none⟩) nL c3) nL (nums L) :: slc 3 1 (.slice (some ⟨g4, 0, none⟩) nD c4) nD (nums D) :: ps) (.slice (some ⟨g5, 0, none⟩) 19 c5) (.slice a11 19 c11) RL := ⟨fun w' h => by rw [HRLL.out]; exact (h.front 3 rfl).rd, fun w' h => by rw [HRLL.out]; exact (h.front 1 rfl).rd, MR.out.all, MR.out.wt, by rw [HRLL.out]; omega⟩
              have HCO := Lib.hid hco
              have hbdR : ∀ m, (runsB RL (RS.take m)).length ≤ 22 * 632 := fun m => by
                have h1 := flat_le (f := runB RL) (b := 22) (RS.take m) (fun r hr => by
                  have h2 := cbits_le MR.out.all r.sym.toNat
                  have h3 := (OKR.out r (List.mem_of_mem_take hr)).n
                  unfold runB
                  rw [List.length_append, bitsOf_length]
                  omega)
                rw [List.length_take] at h1
                unfold runsB
                have := hnR.out
                omega
              have HBR := Lib.hid hbdR
              clear hco hbdR
              go_wp2_with fail
              go_loopw [117] (fun s117 wx => ∃ m : Nat, s117 = .int .i64 m ∧ m ≤ k ∧ Own w0 wx (Wtr g (W3 ++ runsB RL (RS.take m)) :: blk gc (.cells #[.slice (some ⟨g5, 0, none⟩) 19 c5, .slice a11 19 c11] 75) :: slc 3 1 (.slice a11 19 c11) 19 (nums (codesF RL)) :: slc 3 1 (.slice (some ⟨g6, 0, none⟩) j c9) j (nums SO) :: slc 3 1 (.slice (some ⟨g5, 0, none⟩) 19 c5) 19 (nums RL) :: slc 100 3 (.slice a8 k c8) k (rows rcell RS) :: slc 3 1 (.slice (some ⟨g3, 0, none⟩) nL c3) nL (nums L) :: slc 3 1 (.slice (some ⟨g4, 0, none⟩) nD c4) nD (nums D) :: ps)) (fun s117 _ => k - (intOf s117).toNat)
              case atStart => exact ⟨0, by go_num, by omega, by simpa [runsB] using H⟩
              case round =>
                clear H
                obtain ⟨m, rfl, hm, H⟩ := hrel
                have hbl := HBR.out m
                by_cases hmk : m < k
                · have hmI : (m : Int) < (k : Int) := by omega
                  obtain ⟨t, htk⟩ := get_of_lt (l := RS) (k := m) (by rw [hnR.out]; exact hmk)
                  have hok := OKR.out t (List.mem_of_getElem? htk)
                  have hps := runL_pos OKR.out (by rw [hnR.out]; omega) (List.mem_of_getElem? htk)
                  rw [hRL.out] at hps
                  obtain ⟨b, o, _, he2, -⟩ := (H.front 5 rfl).rd.some (by rw [rows_length rcell rcell_length, hnR.out]; omega)
                  cases he2
                  obtain ⟨c0, cc1, cc2⟩ := run_cells (H.front 5 rfl).rd htk
                  have hsn := runB_succ (ls := RL) htk
                  unfold runB at hsn
                  obtain ⟨hsy, hrn1, hrv⟩ := hok
                  obtain ⟨x, y, z⟩ := t
                  simp only at c0 cc1 cc2 hsy hrn1 hrv hps hsn
                  obtain ⟨x, rfl⟩ : ∃ s : Nat, x = s := ⟨x.toNat, by omega⟩
                  obtain ⟨y, rfl⟩ : ∃ s : Nat, y = s := ⟨y.toNat, by omega⟩
                  simp only [Int.toNat_natCast] at hps hsn hrv
                  have hxl := pos_lt hps
                  have hz128 : z < 128 := by
                    have : (2 : Int) ^ y ≤ 2 ^ 7 := pow2_le (by omega)
                    omega
                  have hsn2 : Hid (W3 ++ runsB RL (RS.take (m + 1)) = W3 ++ runsB RL (RS.take m) ++ cbits RL x ++ bitsOf z y) := Lib.hid (by rw [hsn]; simp only [List.append_assoc])
                  obtain ⟨WB, hWB⟩ : ∃ W, Hid (W3 ++ runsB RL (RS.take m) = W) := ⟨_, Lib.hid rfl⟩
                  have hWBl : WB.length ≤ bs.length + 14000 := by rw [← hWB.out, List.length_append]; omega
                  rw [hWB.out] at H hsn2
                  have hcx := cbits_le MR.out.all x
                  have k1 := fun (tb : Nat) w1 h => cput_any (w := w1) (HCO.out.mono (qs := blk tb (.cells #[.int .i64 (x : Int), .int .i64 (y : Int), .int .i64 z] 100) :: blk gc (.cells #[.slice (some ⟨g5, 0, none⟩) 19 c5, .slice a11 19 c11] 75) :: slc 3 1 (.slice a11 19 c11) 19 (nums (codesF RL)) :: slc 3 1 (.slice (some ⟨g6, 0, none⟩) j c9) j (nums SO) :: slc 3 1 (.slice (some ⟨g5, 0, none⟩) 19 c5) 19 (nums RL) :: slc 100 3 (.slice (some ⟨b, o, none⟩) k c8) k (rows rcell RS) :: slc 3 1 (.slice (some ⟨g3, 0, none⟩) nL c3) nL (nums L) :: slc 3 1 (.slice (some ⟨g4, 0, none⟩) nD c4) nD (nums D) :: ps) fun w' h => h.drop) hxl h (bs := WB) (g := g) (by omega)
                  have k2 := fun (tb : Nat) w1 h => put_any (w := w1) (w0 := w0) (ps := blk tb (.cells #[.int .i64 (x : Int), .int .i64 (y : Int), .int .i64 z] 100) :: blk gc (.cells #[.slice (some ⟨g5, 0, none⟩) 19 c5, .slice a11 19 c11] 75) :: slc 3 1 (.slice a11 19 c11) 19 (nums (codesF RL)) :: slc 3 1 (.slice (some ⟨g6, 0, none⟩) j c9) j (nums SO) :: slc 3 1 (.slice (some ⟨g5, 0, none⟩) 19 c5) 19 (nums RL) :: slc 100 3 (.slice (some ⟨b, o, none⟩) k c8) k (rows rcell RS) :: slc 3 1 (.slice (some ⟨g3, 0, none⟩) nL c3) nL (nums L) :: slc 3 1 (.slice (some ⟨g4, 0, none⟩) nD c4) nD (nums D) :: ps) (g := g) (bs := WB ++ cbits RL x) z (y : Int) (by omega) (by omega) h (by rw [List.length_append]; omega)
                  rw [cut_eq (by omega) (by omega), Int.toNat_natCast, ← hsn2.out] at k2
                  have K1 := Lib.hid k1
                  have K2 := Lib.hid k2
                  clear k1 k2 hsn hrv hps hbl htk hcx hxl
                  go_upto_region 32 with (refine wpList_store_agg (vs := [.int .i64 x, .int .i64 y, .int .i64 z]) rfl _ _ rfl rfl (H.alloc _) rfl (by kernel_rfl) (by simp) (by simp; exact ⟨rfl, rfl, rfl⟩) rfl ?_; clear c0 cc1 cc2; intro w22 H22)
                  clear H
                  generalize wr.heap.size = tb at *
                  have H : Own w0 w22 (Wtr g WB :: blk tb (.cells #[.int .i64 (x : Int), .int .i64 (y : Int), .int .i64 z] 100) :: blk gc (.cells #[.slice (some ⟨g5, 0, none⟩) 19 c5, .slice a11 19 c11] 75) :: slc 3 1 (.slice a11 19 c11) 19 (nums (codesF RL)) :: slc 3 1 (.slice (some ⟨g6, 0, none⟩) j c9) j (nums SO) :: slc 3 1 (.slice (some ⟨g5, 0, none⟩) 19 c5) 19 (nums RL) :: slc 100 3 (.slice (some ⟨b, o, none⟩) k c8) k (rows rcell RS) :: slc 3 1 (.slice (some ⟨g3, 0, none⟩) nL c3) nL (nums L) :: slc 3 1 (.slice (some ⟨g4, 0, none⟩) nD c4) nD (nums D) :: ps) := H22.swap
                  clear H22
                  have c0 := (H.front 1 rfl).cells
                  have cg := (H.front 2 rfl).cells
                  go_wp2_with fail
                  refine (K1.out _ _ H).mono ?_
                  rintro e w23 ⟨_, rfl, H23⟩
                  clear H c0 cg
                  have c0 := (H23.front 1 rfl).cells
                  go_wp2_with fail
                  refine (K2.out _ _ H23).mono ?_
                  rintro e w24 ⟨_, rfl, H24⟩
                  clear H23 c0
                  have H := (H24.front 1 rfl).drop
                  clear H24
                  go_wp2_with fail
                  go_roundw
                  case rel => exact ⟨m + 1, by go_num, by omega, H⟩
                  case measure => simp [intOf]; omega
                · obtain rfl : m = k := by omega
                  have hmI : ¬ (m : Int) < (m : Int) := by omega
                  rw [List.take_of_length_le (by rw [hnR.out]; exact Nat.le_refl _)] at H hbl
                  obtain ⟨W4, hW4⟩ : ∃ W, Hid (W3 ++ runsB RL RS = W) := ⟨_, Lib.hid rfl⟩
                  have hW4l : W4.length ≤ bs.length + 14000 := by rw [← hW4.out, List.length_append]; omega
                  rw [hW4.out] at H
                  have kL := fun w1 h => made_any (w := w1) (v := .slice (some ⟨g3, 0, none⟩) nL c3) (n := nL) (L := L) h (by omega) ML.out.cerr
                  have kD := fun w1 h => made_any (w := w1) (v := .slice (some ⟨g4, 0, none⟩) nD c4) (n := nD) (L := D) h (by omega) MD.out.cerr
                  rw [hnL.out] at kL
                  rw [hnD.out] at kD
                  have KL := Lib.hid kL
                  have KD := Lib.hid kD
                  clear kL kD hbl
                  go_wp2_with fail
                  refine (KL.out _ (H.front 6 rfl).rd).mono ?_
                  rintro e w25 ⟨_, rfl, u12, rfl, J⟩
                  replace H := H.join J
                  clear J KL
                  obtain ⟨a12, c12, rfl, -⟩ := H.rd.shape
                  go_wp2_with fail
                  refine (KD.out _ (H.front 8 rfl).rd).mono ?_
                  rintro e w26 ⟨_, rfl, u13, rfl, J⟩
                  replace H := H.join J
                  clear J KD
                  obtain ⟨a13, c13, rfl, -⟩ := H.rd.shape
                  have H : Own w0 w26 (Wtr g W4 :: slc 3 1 (.slice a13 nD c13) nD (nums (codesF D)) :: slc 3 1 (.slice a12 nL c12) nL (nums (codesF L)) :: slc 3 1 (.slice (some ⟨g3, 0, none⟩) nL c3) nL (nums L) :: slc 3 1 (.slice (some ⟨g4, 0, none⟩) nD c4) nD (nums D) :: ps) := (((((((H.front 2 rfl).front 7 rfl).front 7 rfl).front 7 rfl).front 7 rfl).front 7 rfl).drop.drop.drop.drop.drop)
                  have cokL : CodOk w0 (slc 3 1 (.slice a13 nD c13) nD (nums (codesF D)) :: slc 3 1 (.slice a12 nL c12) nL (nums (codesF L)) :: slc 3 1 (.slice (some ⟨g3, 0, none⟩) nL c3) nL (nums L) :: slc 3 1 (.slice (some ⟨g4, 0, none⟩) nD c4) nD (nums D) :: ps) (.slice (some ⟨g3, 0, none⟩) nL c3) (.slice a12 nL c12) L := ⟨fun w' h => by rw [hnL.out]; exact (h.front 2 rfl).rd, fun w' h => by rw [hnL.out]; exact (h.front 1 rfl).rd, ML.out.all, ML.out.wt, by rw [hnL.out]; omega⟩
                  have cokD : CodOk w0 (slc 3 1 (.slice a13 nD c13) nD (nums (codesF D)) :: slc 3 1 (.slice a12 nL c12) nL (nums (codesF L)) :: slc 3 1 (.slice (some ⟨g3, 0, none⟩) nL c3) nL (nums L) :: slc 3 1 (.slice (some ⟨g4, 0, none⟩) nD c4) nD (nums D) :: ps) (.slice (some ⟨g4, 0, none⟩) nD c4) (.slice a13 nD c13) D := ⟨fun w' h => by rw [hnD.out]; exact (h.front 3 rfl).rd, fun w' h => by rw [hnD.out]; exact h.rd, MD.out.all, MD.out.wt, by rw [hnD.out]; omega⟩
                  have kb := body_any cokL cokD (l := l) (tv := .slice ta N tc) (by rw [hN.out]; exact HT.out.mono fun w' h => h.drop.drop.drop.drop) OKS.out (by rw [hnL.out]; omega) H (by rw [hN.out]; omega)
                  have KB := Lib.hid kb
                  have hfin : Hid (bs ++ headB last 2 ++ (sizesB L.length D.length SO.length ++ (lensB SO ++ (runsB RL RS ++ bodyB L D l))) = W4 ++ bodyB L D l) := Lib.hid (by
                    rw [hnL.out, hnD.out, hnS.out, ← hW4.out, ← hW3.out, ← hW2b.out, ← hW1.out]
                    simp only [List.append_assoc])
                  clear kb cokL cokD
                  go_wp2_with fail
                  refine KB.out.mono ?_
                  rintro e w27 ⟨_, rfl, H27⟩
                  go_wp2_with fail
                  go_end0
                  rw [hfin.out]
                  exact ⟨_, rfl, (((((H27.front 4 rfl).front 4 rfl).front 4 rfl).front 4 rfl).drop.drop.drop.drop)⟩
end Go.Proofs.Ytpbodonmiepilaa
/- Bits: Writer.Align. -/
namespace Go.Proofs.Ytpbodonmiepilaa
open Go.RowKit

set_option maxHeartbeats 400000 in
theorem align_gen {w0 w : World} {ps : List Piece} {g : Nat} {a : Option Addr} {N cp m : Nat} {xs : List Value} (H : Own w0 w (blk g (.cells #[.slice a N cp, .int .i64 m] 56) :: ps)) (hN1 : N ≤ 35184372088832) (hc1 : N ≤ cp) (hc2 : cp ≤ 9223372036854775807) :
    Calls Try.prog 48 #[.pointer (some ⟨g, 0, none⟩)] w (Ret fun _ w' => Own w0 w' (blk g (.cells #[.slice a N cp, .int .i64 (8 * N : Nat)] 56) :: ps)) := by
  have c0 := H.cells
  go_enter Try.func48, Try.ntmps48
  go_wp2_with (refine wpList_store_int rfl _ _ rfl rfl H rfl (by kernel_rfl) (by simp) ?_; clear H c0; intro w3 H)
  go_end0
  refine ⟨_, rfl, ?_⟩
  simpa using H
theorem align_any {w0 w : World} {ps : List Piece} {g : Nat} {bs : List Bool} (H : Own w0 w (Wtr g bs :: ps)) (hl : bs.length ≤ 35184372088832) :
    Calls Try.prog 48 #[.pointer (some ⟨g, 0, none⟩)] w (Ret fun _ w' => Own w0 w' (Wtr g (aligned bs) :: ps)) := by
  obtain ⟨a, cp, hc1, hc2, H⟩ := H.wtr
  refine (align_gen (xs := []) H (by unfold nbytes; omega) hc1 hc2).mono ?_
  rintro e w3 ⟨v, rfl, H⟩
  refine ⟨_, rfl, H.unwtr ?_ ?_ ?_⟩
  · rw [aligned_length]
  · rw [aligned_length]; unfold nbytes; omega
  · rw [bytesOf_aligned]
end Go.Proofs.Ytpbodonmiepilaa
/- Bits: Writer.Text. -/
namespace Go.Proofs.Ytpbodonmiepilaa
open Go.RowKit

set_option maxHeartbeats 400000 in
theorem text_any {w0 w : World} {ps : List Piece} {g : Nat} {bs : List Bool} (s : ByteArray) (H : Own w0 w (Wtr g bs :: ps)) (hl : bs.length + s.size ≤ 35184372088000) :
    Calls Try.prog 50 #[.pointer (some ⟨g, 0, none⟩), .string s] w (Ret fun _ w' => Own w0 w' (Wtr g (aligned bs ++ textBits s) :: ps)) := by
  go_enter Try.func50, Try.ntmps50
  go_wp2_with fail
  refine (align_any H (by omega)).mono ?_
  rintro e w1 ⟨_, rfl, H1⟩
  clear H
  obtain ⟨m, hm⟩ : ∃ m, Hid ((aligned bs).length = m) := ⟨_, rfl⟩
  obtain ⟨N, hN⟩ : ∃ N, Hid (nbytes m = N) := ⟨_, rfl⟩
  have hmN : m = 8 * N ∧ N ≤ nbytes bs.length := by have h1 := hm.out; have h2 := hN.out; rw [aligned_length] at h1; unfold nbytes at *; omega
  obtain ⟨hmN, hN2⟩ := hmN
  have hN3 : N + s.size ≤ 35184372088800 := by unfold nbytes at hN2; omega
  obtain ⟨a, cp, hc1, hc2, H⟩ := H1.wtr
  clear H1
  rw [hm.out] at H hc1
  rw [hN.out] at H hc1
  have c0 := H.cells
  go_wp2_with (first
    | (at_builtin; refine wpList_append_str rfl _ _ rfl Try.underlying54 Try.underlying9 u8Info rfl rfl H.swap rfl (by omega) ?_; clear H c0; intro v' w' H; replace H := H.swap; obtain ⟨a', c', rfl, h1', h2'⟩ := (H.front 1 rfl).rd.shape)
    | (refine wpList_store_slice rfl _ _ rfl rfl H rfl (by kernel_rfl) (by simp) ?_; clear H; intro w2 H))
  refine (align_gen (xs := []) (m := m) (by simpa using H) (by omega) h1' h2').mono ?_
  rintro e w3 ⟨_, rfl, H3⟩
  go_wp2
  go_end0
  have hlen : (aligned bs ++ textBits s).length = 8 * (N + s.size) := by rw [List.length_append, hm.out, textBits_length]; omega
  refine ⟨_, rfl, H3.unwtr ?_ ?_ ?_⟩
  · rw [hlen]
  · rw [hlen]; unfold nbytes; omega
  · rw [bytesOf_append _ _ (by rw [hm.out]; omega), textBits, bytesOf_nums _ (byteNums_bd s), byteCells_nums]
    simp [u8s]
end Go.Proofs.Ytpbodonmiepilaa
/- flate: the walk of Store. -/
namespace Go.Proofs.Ytpbodonmiepilaa
open Go.RowKit

theorem xor16 {n : Nat} (h : n ≤ 65535) : bits .xor .i64 (n : Int) 65535 = 65535 - (n : Int) := by
  have h1 : n ^^^ 65535 = 65535 - n := by
    have e1 : (BitVec.ofNat 16 n ^^^ BitVec.allOnes 16).toNat = 65535 - n := by
      rw [BitVec.xor_allOnes, BitVec.toNat_not, BitVec.toNat_ofNat, Nat.mod_eq_of_lt (by omega)]
    rw [BitVec.toNat_xor, BitVec.toNat_ofNat, Nat.mod_eq_of_lt (by omega)] at e1
    exact e1
  have key : IntKind.i64.wrap ((BitVec.ofInt 64 (n : Int) ^^^ BitVec.ofInt 64 ((65535 : Nat) : Int)).toNat : Int) = 65535 - (n : Int) := by
    rw [BitVec.ofInt_natCast, BitVec.ofInt_natCast, BitVec.toNat_xor, BitVec.toNat_ofNat, BitVec.toNat_ofNat, Nat.mod_eq_of_lt (by omega), Nat.mod_eq_of_lt (by omega), h1, IntKind.wrap_i64]
    omega
  exact key
theorem aligned_id {bs : List Bool} (h : bs.length % 8 = 0) : aligned bs = bs := by
  unfold aligned padN
  rw [h]
  simp
theorem aligned_mod (bs : List Bool) : (aligned bs).length % 8 = 0 := by rw [aligned_length]; omega
def strLen : Value → Nat | .string t => t.size | _ => 0
def boolNum : Value → Nat | .bool true => 1 | _ => 0
/-- A chunk of a text as it is. -/
def chunkB (last : Bool) (t : ByteArray) (bs : List Bool) : List Bool := aligned (bs ++ headB last 0) ++ (bitsOf (t.size : Int) 16 ++ (bitsOf (65535 - (t.size : Int)) 16 ++ textBits t))
theorem chunk_len (last : Bool) (t : ByteArray) (bs : List Bool) : (chunkB last t bs).length ≤ bs.length + 8 * t.size + 48 := by
  unfold chunkB
  rw [List.length_append, List.length_append, List.length_append, bitsOf_length, bitsOf_length, textBits_length, aligned_length, List.length_append]
  simp [headB, bitsOf_length, nbytes]
  omega
theorem storeB_more {f : Nat} {t : ByteArray} {bs : List Bool} (h : ¬ t.size ≤ 65535) : storeB (f + 1) t bs = storeB f (t.extract 65535 t.size) (chunkB false (t.extract 0 65535) bs) := by
  rw [storeB, if_neg h]
  unfold chunkB
  rw [show (t.extract 0 65535).size = 65535 by rw [ByteArray.size_extract]; omega]
  rfl
theorem storeB_last {f : Nat} {t : ByteArray} {bs : List Bool} (h : t.size ≤ 65535) : storeB (f + 1) t bs = chunkB true t bs := by
  rw [storeB, if_pos h]; rfl

theorem tl_empty (t : ByteArray) : t.toList.isEmpty = decide (t.size = 0) := by
  rw [str_data]
  cases h : t.data.toList with
  | nil =>
    have : t.data.size = 0 := by rw [← Array.length_toList, h]; rfl
    have : t.size = 0 := this
    rw [this]; rfl
  | cons a l =>
    have : t.data.size = l.length + 1 := by rw [← Array.length_toList, h]; rfl
    have : t.size = l.length + 1 := this
    rw [this]; rfl
set_option maxRecDepth 100000 in
set_option maxHeartbeats 3200000 in
theorem store_any {w : World} (s : ByteArray) (hs : s.size ≤ 1000000) :
    Calls Try.prog 31 #[.string s] w (Ret fun r w' => r = .string (textOf (storeF s)) ∧ Own w w' []) := by
  have H := (Own.start w).newWtr
  obtain ⟨R, hR⟩ : ∃ R, Hid (storeF s = R) := ⟨_, Lib.hid rfl⟩
  rw [hR.out]
  have hR2 : Hid (storeB (s.size + 1) s [] = R) := Lib.hid hR.out
  clear hR
  go_enter Try.func31, Try.ntmps31
  go_wp2_with fail
  generalize w.alloc _ = w1 at *
  generalize w.heap.size = g at *
  go_loopw [0, 4] (fun s0 s4 wx => ∃ (t : ByteArray) (b : Bool) (f : Nat) (B : List Bool), s0 = .string t ∧ s4 = .bool b ∧ t.size ≤ 1000000 ∧ t.size < f + 1 ∧ (Hid (B.length ≤ 10 * (1000000 - t.size) + 48) ∧ (b = true ∨ 0 < t.size) ∧ Hid (storeB (f + 1) t B = R) ∨ b = false ∧ t.size = 0 ∧ Hid (B = R)) ∧ Own w wx [Wtr g B]) (fun s0 s4 _ => 2 * strLen s0 + boolNum s4)
  case atStart => exact ⟨s, true, s.size, [], rfl, rfl, hs, by omega, .inl ⟨Lib.hid (by simp), .inl rfl, hR2⟩, H⟩
  case round =>
    clear H hR2
    obtain ⟨t, b, f, B, rfl, rfl, ht, hf, hc, H⟩ := hrel
    rcases hc with ⟨hBl, hc, hst⟩ | ⟨rfl, ht0, hBR⟩
    · have hte : b = true ∨ t.toList.isEmpty = false := by
        rcases hc with h1 | h1
        · exact .inl h1
        · right; rw [tl_empty, decide_eq_false_iff_not]; omega
      obtain ⟨N, hN⟩ : ∃ N, t.size = N := ⟨_, rfl⟩
      rw [hN] at hf ht hc hBl
      by_cases h16 : N ≤ 65535
      · have hfin := hst.out
        rw [storeB_last (by rw [hN]; exact h16)] at hfin
        have HFIN := Lib.hid hfin
        have hx1 := xor16 h16
        have hex0 : t.extract 0 N = t := by rw [← hN]; exact ByteArray.extract_zero_size
        have ht2s : Hid (ByteArray.empty.size = 0) := Lib.hid rfl
        have hms : Hid (0 < 2 * N + boolNum (.bool b)) := Lib.hid (by rcases hc with h1 | h1
                                                                      · subst h1; simp [boolNum]
                                                                      · omega)
        clear hc hst hfin
        rcases hte with rfl | hte
        case' inr => cases b
        all_goals
          go_upto_region 5 with (fail)
          go_cut [5, 11, 12, 13] (fun s5 _ _ _ wx => wx = wr ∧ s5 = .int .i64 N)
          case first =>
            go_wp2
            all_goals go_meet
            all_goals exact ⟨rfl, val_int (by omega)⟩
          case rest =>
          obtain ⟨rfl, rfl⟩ := hcut
          have k1 := fun w1 (h : Own w w1 [Wtr g B]) => head_any true 0 (by omega) h (by have := hBl.out; omega)
          have k2 := fun w1 (h : Own w w1 [Wtr g (B ++ headB true 0)]) => align_any h (by rw [List.length_append]; simp [headB, bitsOf_length]; have := hBl.out; omega)
          have hal : (aligned (B ++ headB true 0)).length ≤ 11000000 := by rw [aligned_length, List.length_append]; simp [headB, bitsOf_length, nbytes]; have := hBl.out; omega
          have ham := aligned_mod (B ++ headB true 0)
          obtain ⟨A, hA⟩ : ∃ A, Hid (aligned (B ++ headB true 0) = A) := ⟨_, Lib.hid rfl⟩
          rw [hA.out] at k2 hal ham
          have k3 := fun w1 (h : Own w w1 [Wtr g A]) => put_any ((N : Int)) 16 (by omega) (by omega) h (by omega)
          have k4 := fun w1 (h : Own w w1 [Wtr g (A ++ bitsOf ((N : Int)) 16)]) => put_any (65535 - ((N : Int))) 16 (by omega) (by omega) h (by rw [List.length_append, bitsOf_length]; omega)
          rw [show cut 16 = 16 from rfl] at k3 k4
          have hal2 : aligned (A ++ bitsOf ((N : Int)) 16 ++ bitsOf (65535 - ((N : Int))) 16) = A ++ bitsOf ((N : Int)) 16 ++ bitsOf (65535 - ((N : Int))) 16 := aligned_id (by rw [List.length_append, List.length_append, bitsOf_length, bitsOf_length]; omega)
          have k5 := fun w1 (h : Own w w1 [Wtr g (A ++ bitsOf ((N : Int)) 16 ++ bitsOf (65535 - ((N : Int))) 16)]) => text_any (t) h (by rw [List.length_append, List.length_append, bitsOf_length, bitsOf_length]; omega)
          rw [hal2] at k5
          have hch : Hid (A ++ bitsOf ((N : Int)) 16 ++ bitsOf (65535 - ((N : Int))) 16 ++ textBits (t) = chunkB true (t) B) := Lib.hid (by unfold chunkB; rw [hA.out, hN]; simp only [List.append_assoc])
          have K1 := Lib.hid k1
          have K2 := Lib.hid k2
          have K3 := Lib.hid k3
          have K4 := Lib.hid k4
          have K5 := Lib.hid k5
          have hcl := chunk_len true (t) B
          have HCL := Lib.hid hcl
          clear k1 k2 k3 k4 k5 hal ham hal2 hcl
          go_wp2_with fail
          refine (K1.out _ H).mono ?_
          rintro e w3 ⟨_, rfl, H3⟩
          clear H
          go_wp2_with fail
          refine (K2.out _ H3).mono ?_
          rintro e w4 ⟨_, rfl, H⟩
          clear H3
          go_wp2_with fail
          refine (K3.out _ H).mono ?_
          rintro e w5 ⟨_, rfl, H5⟩
          clear H
          go_wp2_with fail
          refine (K4.out _ H5).mono ?_
          rintro e w6 ⟨_, rfl, H⟩
          clear H5
          go_wp2_with fail
          refine (K5.out _ H).mono ?_
          rintro e w7 ⟨_, rfl, H7⟩
          clear H
          rw [hch.out] at H7
          go_wp2_with fail
          go_roundw
          case rel => exact ⟨ByteArray.empty, false, f, _, rfl, rfl, by rw [ht2s.out]; omega, by rw [ht2s.out]; omega, .inr ⟨rfl, ht2s.out, HFIN⟩, H7⟩
          case measure => simp only [strLen, ht2s.out, hN]; exact hms.out
      · have hfin := hst.out
        obtain ⟨f, rfl⟩ : ∃ f', f = f' + 1 := ⟨f - 1, by omega⟩
        obtain ⟨t3, ht3⟩ : ∃ t3, t.extract 0 65535 = t3 := ⟨_, rfl⟩
        obtain ⟨t2, ht2⟩ : ∃ t2, t.extract 65535 N = t2 := ⟨_, rfl⟩
        have ht2s : Hid (t2.size = N - 65535) := Lib.hid (by rw [← ht2, ByteArray.size_extract]; omega)
        have ht3s : t3.size = 65535 := by rw [← ht3, ByteArray.size_extract]; omega
        rw [storeB_more (by rw [hN]; exact h16), hN, ht2, ht3] at hfin
        have HFIN := Lib.hid hfin
        clear hc hst hfin
        have hNI : ((65535 : Int) == (N : Int)) = false := by simp; omega
        have hcI : (65535 : Int) ≤ (N : Int) := by omega
        rcases hte with rfl | hte
        case' inr => cases b
        all_goals
          go_upto_region 5 with (fail)
          go_cut [5, 11, 12, 13] (fun s5 _ _ _ wx => wx = wr ∧ s5 = .int .i64 65535)
          case first =>
            go_wp2
            all_goals go_meet
            all_goals exact ⟨rfl, val_int (by omega)⟩
          case rest =>
          obtain ⟨rfl, rfl⟩ := hcut
          have k1 := fun w1 (h : Own w w1 [Wtr g B]) => head_any false 0 (by omega) h (by have := hBl.out; omega)
          have k2 := fun w1 (h : Own w w1 [Wtr g (B ++ headB false 0)]) => align_any h (by rw [List.length_append]; simp [headB, bitsOf_length]; have := hBl.out; omega)
          have hal : (aligned (B ++ headB false 0)).length ≤ 11000000 := by rw [aligned_length, List.length_append]; simp [headB, bitsOf_length, nbytes]; have := hBl.out; omega
          have ham := aligned_mod (B ++ headB false 0)
          obtain ⟨A, hA⟩ : ∃ A, Hid (aligned (B ++ headB false 0) = A) := ⟨_, Lib.hid rfl⟩
          rw [hA.out] at k2 hal ham
          have k3 := fun w1 (h : Own w w1 [Wtr g A]) => put_any (65535) 16 (by omega) (by omega) h (by omega)
          have k4 := fun w1 (h : Own w w1 [Wtr g (A ++ bitsOf (65535) 16)]) => put_any (65535 - (65535)) 16 (by omega) (by omega) h (by rw [List.length_append, bitsOf_length]; omega)
          rw [show cut 16 = 16 from rfl] at k3 k4
          have hal2 : aligned (A ++ bitsOf (65535) 16 ++ bitsOf (65535 - (65535)) 16) = A ++ bitsOf (65535) 16 ++ bitsOf (65535 - (65535)) 16 := aligned_id (by rw [List.length_append, List.length_append, bitsOf_length, bitsOf_length]; omega)
          have k5 := fun w1 (h : Own w w1 [Wtr g (A ++ bitsOf (65535) 16 ++ bitsOf (65535 - (65535)) 16)]) => text_any (t3) h (by rw [List.length_append, List.length_append, bitsOf_length, bitsOf_length]; omega)
          rw [hal2] at k5
          have hch : Hid (A ++ bitsOf (65535) 16 ++ bitsOf (65535 - (65535)) 16 ++ textBits (t3) = chunkB false (t3) B) := Lib.hid (by unfold chunkB; rw [hA.out, ht3s]; simp only [List.append_assoc]; rfl)
          have K1 := Lib.hid k1
          have K2 := Lib.hid k2
          have K3 := Lib.hid k3
          have K4 := Lib.hid k4
          have K5 := Lib.hid k5
          have hcl := chunk_len false (t3) B
          rw [ht3s] at hcl
          have HCL := Lib.hid hcl
          clear k1 k2 k3 k4 k5 hal ham hal2 hcl
          go_wp2_with fail
          refine (K1.out _ H).mono ?_
          rintro e w3 ⟨_, rfl, H3⟩
          clear H
          go_wp2_with fail
          refine (K2.out _ H3).mono ?_
          rintro e w4 ⟨_, rfl, H⟩
          clear H3
          go_wp2_with fail
          refine (K3.out _ H).mono ?_
          rintro e w5 ⟨_, rfl, H5⟩
          clear H
          go_wp2_with fail
          refine (K4.out _ H5).mono ?_
          rintro e w6 ⟨_, rfl, H⟩
          clear H5
          go_wp2_with fail
          refine (K5.out _ H).mono ?_
          rintro e w7 ⟨_, rfl, H7⟩
          clear H
          rw [hch.out] at H7
          go_wp2_with fail
          go_roundw
          case rel => exact ⟨t2, false, f, _, rfl, rfl, by rw [ht2s.out]; omega, by rw [ht2s.out]; omega, .inl ⟨Lib.hid (by have := HCL.out; have := hBl.out; rw [ht2s.out]; omega), .inr (by rw [ht2s.out]; omega), HFIN⟩, H7⟩
          case measure => simp only [strLen, ht2s.out, hN]; simp [boolNum]; omega
    · have hte : t.toList.isEmpty = true := by rw [tl_empty, ht0]; rfl
      have HT0 := Lib.hid ht0
      clear ht0 hf
      go_wp2_with fail
      refine (bytes_any H).mono ?_
      rintro e w4 ⟨rfl, rfl⟩
      rw [hBR.out]
      go_wp2_with fail
      go_ret
      exact ⟨_, rfl, rfl, H.bare⟩
end Go.Proofs.Ytpbodonmiepilaa
/- flate: the walks of Block, Rich, Pack. -/
namespace Go.Proofs.Ytpbodonmiepilaa
open Go.RowKit

theorem blockB_ne {l : List Tok} {kind : Int} {last : Bool} (h : kind ≠ 1) : blockB l kind last = blockB l 2 last := by
  unfold blockB
  rw [if_neg h, if_neg (by omega)]
theorem block_any {w0 w : World} {ps : List Piece} {g : Nat} {bs : List Bool} {tv : Value} {l : List Tok} (kind : Int) (last : Bool) (ht : Reads w0 ps 3 tv l.length (rows tcell l)) (hs : ∀ t ∈ l, TokOk t) (hln : l.length ≤ 1000000) (H : Own w0 w (Wtr g bs :: ps)) (hl : bs.length + 48 * l.length ≤ 35184372000000) :
    Calls Try.prog 24 #[.pointer (some ⟨g, 0, none⟩), tv, .int .i64 kind, .bool last] w (Ret fun _ w' => Own w0 w' (Wtr g (bs ++ blockB l kind last) :: ps)) := by
  by_cases hk : kind = 1
  · subst hk
    exact block1_any last ht hs H (by omega)
  · have hkb : (kind == 1) = false := by simpa using hk
    rw [blockB_ne hk]
    obtain ⟨ta, tc, rfl, ht1, ht2⟩ := (ht w H.drop).shape
    have k1 := rich_any (g := g) (bs := bs) last ht hs hln H hl
    have K1 := Lib.hid k1
    clear k1 ht hs hk
    generalize l.length = N at *
    go_enter Try.func24, Try.ntmps24
    go_wp2_with fail
    refine K1.out.mono ?_
    rintro e w1 ⟨_, rfl, H2⟩
    go_wp2_with fail
    go_end0
    exact ⟨_, rfl, H2⟩
def richF (s : ByteArray) : ByteArray := textOf (blockB (parse s) 2 true)
set_option maxRecDepth 100000 in
theorem richT_any {w : World} (s : ByteArray) (hs : s.size ≤ 1000000) :
    Calls Try.prog 33 #[.string s] w (Ret fun r w' => r = .string (richF s) ∧ Own w w' []) := by
  have H := (Own.start w).newWtr
  obtain ⟨T, hT⟩ : ∃ T, Hid (parse s = T) := ⟨_, rfl⟩
  have hok := parse_ok s
  have hlen := parse_len s
  unfold richF
  rw [hT.out] at hok hlen ⊢
  have HOK := Lib.hid hok
  clear hok
  go_enter Try.func33, Try.ntmps33
  go_wp2_with fail
  generalize w.alloc _ = w1 at *
  generalize w.heap.size = g at *
  refine (lzparse_any H hs).mono ?_
  rintro e w2 ⟨v, rfl, H2⟩
  rw [hT.out] at H2
  clear H
  obtain ⟨a, c, rfl, -⟩ := H2.rd.shape
  have hb := block_any (l := T) 2 true (fun w' h => h.rd) HOK.out (by omega) H2.swap (by simp; omega)
  rw [List.nil_append] at hb
  have HB := Lib.hid hb
  clear hb
  obtain ⟨N, hN⟩ : ∃ N, Hid (T.length = N) := ⟨_, rfl⟩
  rw [hN.out] at HB ⊢
  go_wp2_with fail
  refine HB.out.mono ?_
  rintro e w3 ⟨_, rfl, H3⟩
  clear H2
  go_wp2_with fail
  refine (bytes_any H3).mono ?_
  rintro e w4 ⟨rfl, rfl⟩
  go_wp2_with fail
  go_ret
  exact ⟨_, rfl, rfl, H3.bare⟩
/-- The shorter of two texts. -/
def shorter (a b : ByteArray) : ByteArray := if b.size < a.size then b else a
def packF (s : ByteArray) : ByteArray := shorter (shorter (textOf (storeF s)) (simpleF s)) (richF s)
set_option maxRecDepth 100000 in
set_option maxHeartbeats 1600000 in
theorem pack_any {w : World} (s : ByteArray) (hs : s.size ≤ 1000000) :
    Calls Try.prog 18 #[.string s] w (Ret fun r w' => r = .string (packF s) ∧ Own w w' []) := by
  have H := Own.start w
  obtain ⟨A, hA⟩ : ∃ A, Hid (textOf (storeF s) = A) := ⟨_, Lib.hid rfl⟩
  obtain ⟨B, hB⟩ : ∃ B, Hid (simpleF s = B) := ⟨_, Lib.hid rfl⟩
  obtain ⟨C, hC⟩ : ∃ C, Hid (richF s = C) := ⟨_, Lib.hid rfl⟩
  obtain ⟨R, hR⟩ : ∃ R, Hid (shorter (shorter A B) C = R) := ⟨_, Lib.hid rfl⟩
  have hP : packF s = R := by unfold packF; rw [hA.out, hB.out, hC.out, hR.out]
  rw [hP]
  have k1 := fun w => store_any (w := w) s hs
  have k2 := fun w => simple_any (w := w) s hs
  have k3 := fun w => richT_any (w := w) s hs
  rw [hA.out] at k1
  rw [hB.out] at k2
  rw [hC.out] at k3
  have K1 := Lib.hid k1
  have K2 := Lib.hid k2
  have K3 := Lib.hid k3
  clear k1 k2 k3 hP hA hB hC
  go_enter Try.func18, Try.ntmps18
  go_wp2_with fail
  refine (K1.out _).mono ?_
  rintro e w1 ⟨_, rfl, rfl, J⟩
  replace H := H.join J
  clear J
  go_wp2_with fail
  refine (K2.out _).mono ?_
  rintro e w2 ⟨_, rfl, rfl, J⟩
  replace H := H.join J
  clear J
  go_wp2_with fail
  refine (K3.out _).mono ?_
  rintro e w3 ⟨_, rfl, rfl, J⟩
  replace H := H.join J
  clear J K1 K2 K3
  go_upto_region 3 with (fail)
  have h9 := H.alloc (.cells #[.string B, .string C] 9)
  have H : Own w (w3.alloc (.cells #[.string B, .string C] 9)) (blk w3.heap.size (.cells #[.string B, .string C] 9) :: []) := h9
  clear h9
  generalize w3.alloc _ = w4 at *
  generalize w3.heap.size = g at *
  go_loopw [3, 14] (fun s3 s14 wx => ∃ (k : Nat) (X : ByteArray), s14 = .int .i64 k ∧ s3 = .string X ∧ (k = 0 ∧ Hid (X = A) ∨ k = 1 ∧ Hid (X = shorter A B) ∨ k = 2 ∧ Hid (X = R)) ∧ Own w wx (blk g (.cells #[.string B, .string C] 9) :: [])) (fun _ s14 _ => 2 - (intOf s14).toNat)
  case atStart => exact ⟨0, A, by go_num, rfl, .inl ⟨rfl, Lib.hid rfl⟩, H⟩
  case round =>
    clear H
    obtain ⟨k, X, rfl, rfl, hc, H⟩ := hrel
    rcases hc with ⟨rfl, hX⟩ | ⟨rfl, hX⟩ | ⟨rfl, hX⟩
    · have c0 := H.cells
      have hs1 : Hid (shorter X B = shorter A B) := Lib.hid (by rw [hX.out])
      by_cases hlt : B.size < X.size
      · have hI : (B.size : Int) < (X.size : Int) := by omega
        have hn : Hid (B = shorter A B) := Lib.hid (by rw [← hs1.out]; unfold shorter; rw [if_pos hlt])
        go_wp2_with fail
        go_roundw
        case rel => exact ⟨1, B, by go_num, rfl, .inr (.inl ⟨rfl, hn⟩), H⟩
        case measure => simp [intOf]
      · have hI : ¬ (B.size : Int) < (X.size : Int) := by omega
        have hn : Hid (X = shorter A B) := Lib.hid (by rw [← hs1.out]; unfold shorter; rw [if_neg hlt])
        go_wp2_with fail
        go_roundw
        case rel => exact ⟨1, X, by go_num, rfl, .inr (.inl ⟨rfl, hn⟩), H⟩
        case measure => simp [intOf]
    · have c0 := H.cells
      have hs1 : Hid (shorter X C = R) := Lib.hid (by rw [hX.out, hR.out])
      by_cases hlt : C.size < X.size
      · have hI : (C.size : Int) < (X.size : Int) := by omega
        have hn : Hid (C = R) := Lib.hid (by rw [← hs1.out]; unfold shorter; rw [if_pos hlt])
        go_wp2_with fail
        go_roundw
        case rel => exact ⟨2, C, by go_num, rfl, .inr (.inr ⟨rfl, hn⟩), H⟩
        case measure => simp [intOf]
      · have hI : ¬ (C.size : Int) < (X.size : Int) := by omega
        have hn : Hid (X = R) := Lib.hid (by rw [← hs1.out]; unfold shorter; rw [if_neg hlt])
        go_wp2_with fail
        go_roundw
        case rel => exact ⟨2, X, by go_num, rfl, .inr (.inr ⟨rfl, hn⟩), H⟩
        case measure => simp [intOf]
    · rw [hX.out] at *
      clear hX
      go_wp2_with fail
      go_ret
      exact ⟨_, rfl, rfl, H.bare⟩
end Go.Proofs.Ytpbodonmiepilaa
/- inflate: what is packed in each way is unpacked; the examples; plainly. No program in sight. -/
namespace Go.Proofs.Ytpbodonmiepilaa

/-- Bits that are unpacked as these bytes. -/
def Unp (bits : List Bool) (most : Int) (res : List Int) : Prop := ∀ bs r, At bs 0 (bits ++ r) → Steps bs most Inf.init ⟨bits.length, res, none, true⟩
theorem unp_block (s : ByteArray) (kind : Int) (h : s.size ≤ 1000000) : Unp (blockB (parse s) kind true) s.size (bnum s s.size) := by
  intro bs r ha
  have hb := block_steps (most := s.size) (parse_ok s) (by have := parse_len s; omega) (by omega) (exp_parse h) (by simp) ha
  simpa [Inf.init] using hb.1
theorem bnum_nums (s : ByteArray) : bnum s s.size = byteNums s := by
  refine List.ext_getElem? fun i => ?_
  rcases Nat.lt_or_ge i s.size with h | h
  · rw [bnum_get h]
    unfold byteNums byt
    rw [List.getElem?_map, Array.getElem?_toList, Array.getElem?_eq_getElem (show i < s.data.size from h)]
    simp only [Array.getD, Option.map_some]
    rw [dif_pos (show i < s.data.size from h)]
    rfl
  · rw [List.getElem?_eq_none (by rw [bnum_length]; exact h), List.getElem?_eq_none (by rw [byteNums_length]; exact h)]
theorem unp_store (s : ByteArray) (h : s.size ≤ 65535) : Unp (storeF s) s.size (byteNums s) := by
  intro bs r ha
  have e : storeF s = storedB true s 0 := by
    unfold storeF
    rw [storeB, if_pos h]
    unfold storedB aligned
    simp [headB, bitsOf_length]
  rw [e] at ha ⊢
  have hb := (stored_steps (most := s.size) (out := []) h (by simp) ha).1
  simpa [Inf.init] using hb
theorem blockB_size {l : List Tok} (hl : ∀ t ∈ l, TokOk t) (hn : l.length ≤ 1000000) (kind : Int) (last : Bool) : (blockB l kind last).length ≤ 48 * l.length + 15000 := by
  by_cases hk : kind = 1
  · subst hk
    have := blockB_le hl last
    omega
  · unfold blockB
    rw [if_neg hk]
    unfold richB sizesB
    have h1 := bodyB_le (richL_made hl hn).all (richD_made hl hn).all hl
    have hok := richR_ok hl hn
    have hrl := richR_len hl hn
    have m7 := runL_made hok (by omega)
    have h2 := flat_le (f := runB (runL (richR l))) (b := 22) (richR l) (fun r hr => by
      have h3 := cbits_le m7.all r.sym.toNat
      have h4 := (hok r hr).n
      unfold runB
      rw [List.length_append, bitsOf_length]
      omega)
    have h5 : (sortedF (runL (richR l))).length ≤ 19 := by
      unfold sortedF
      rw [trimF_len]
      have := trimK_le' (ordF.map fun s => (runL (richR l)).getD s 0) 4 (ordF.map fun s => (runL (richR l)).getD s 0).length
      rw [List.length_map] at this ⊢
      have h6 : ordF.length = 19 := rfl
      omega
    have h7 := flat_le (f := fun n => bitsOf n 3) (b := 3) (sortedF (runL (richR l))) (fun r _ => by rw [bitsOf_length]; exact Nat.le_refl _)
    unfold lensB runsB
    simp only [headB, List.length_append, List.length_cons, bitsOf_length]
    omega
/-- A text that is packed in one of the four ways. -/
def Packed (s p : ByteArray) : Prop := ∃ bits, p = textOf bits ∧ Unp bits s.size (byteNums s) ∧ bits.length ≤ 48 * s.size + 20000
theorem packed_store {s : ByteArray} (h : s.size ≤ 65535) : Packed s (textOf (storeF s)) := ⟨_, rfl, unp_store s h, by
  unfold storeF
  rw [storeB, if_pos h]
  simp only [List.length_append, bitsOf_length, textBits_length]
  unfold aligned
  simp [headB, bitsOf_length, padN]
  omega⟩
theorem packed_simple {s : ByteArray} (h : s.size ≤ 65535) : Packed s (simpleF s) := ⟨_, rfl, by rw [← bnum_nums]; exact unp_block s 1 (by omega), by have := blockB_size (parse_ok s) (by have := parse_len s; omega) 1 true; have := parse_len s; omega⟩
theorem packed_rich {s : ByteArray} (h : s.size ≤ 65535) : Packed s (richF s) := ⟨_, rfl, by rw [← bnum_nums]; exact unp_block s 2 (by omega), by have := blockB_size (parse_ok s) (by have := parse_len s; omega) 2 true; have := parse_len s; omega⟩
theorem packed_shorter {s a b : ByteArray} (ha : Packed s a) (hb : Packed s b) : Packed s (shorter a b) := by
  unfold shorter
  split
  · exact hb
  · exact ha
theorem packed_pack {s : ByteArray} (h : s.size ≤ 65535) : Packed s (packF s) := by
  unfold packF
  exact packed_shorter (packed_shorter (packed_store h) (packed_simple h)) (packed_rich h)
theorem strOf_nums (s : ByteArray) : strOfNums (byteNums s) = s := by rw [← bnum_nums, bnum_all]
theorem packed_size {s p : ByteArray} (hp : Packed s p) : p.size ≤ 6 * s.size + 3000 := by
  obtain ⟨bits, rfl, -, h⟩ := hp
  rw [textOf_size]
  unfold nbytes
  omega
theorem packed_back {s p behind t : ByteArray} {u e : Int} (hp : Packed s p) (h : InfRes (textBits (p ++ behind)) s.size t u e) : t = s ∧ u = p.size ∧ e = 0 := by
  obtain ⟨bits, rfl, hu, -⟩ := hp
  unfold InfRes at h
  rw [infl_text rfl hu] at h
  obtain ⟨h1, h2, h3⟩ := h
  rw [strOf_nums] at h1
  exact ⟨h1, by rw [h2, textOf_size], h3⟩
theorem byteNums_size (s : ByteArray) : (byteNums s).length = s.size := byteNums_length s
theorem packed_limit {s p t : ByteArray} {most u e : Int} (hp : Packed s p) (h0 : 0 ≤ most) (h1 : most < s.size) (h : InfRes (textBits p) most t u e) : t = ByteArray.empty ∧ u = 0 ∧ e = 12 := by
  obtain ⟨bits, rfl, hu, -⟩ := hp
  unfold InfRes at h
  rw [infl_lim rfl h0 (by rw [byteNums_size]; exact h1) hu] at h
  exact h
theorem packed_cut {s p t : ByteArray} {k : Nat} {u e : Int} (hp : Packed s p) (hk : k < p.size) (h : InfRes (textBits (p.extract 0 k)) s.size t u e) : t = ByteArray.empty ∧ u = 0 ∧ e = 2 := by
  obtain ⟨bits, rfl, hu, -⟩ := hp
  unfold InfRes at h
  rw [infl_cut rfl hk hu] at h
  exact h

/-! ### the examples -/
def finB : Fin' → List Int → Nat → Bool
  | .ok o n, o', n' => decide (o = o') && decide (n = n')
  | _, _, _ => false
def finE : Fin' → Int → Bool
  | .err e, e' => decide (e = e')
  | _, _ => false
theorem finB_eq {f : Fin'} {o : List Int} {n : Nat} (h : finB f o n = true) : f = .ok o n := by
  cases f <;> simp [finB] at h
  obtain ⟨rfl, rfl⟩ := h; rfl
theorem finE_eq {f : Fin'} {e : Int} (h : finE f e = true) : f = .err e := by
  cases f <;> simp [finE] at h
  subst h; rfl
set_option maxRecDepth 100000 in
theorem ex_a : inflF (textBits ⟨#[0x4b, 4, 0]⟩) 9 = .ok [97] 18 := finB_eq (by decide +kernel)
set_option maxRecDepth 100000 in
theorem ex_b : inflF (textBits ⟨#[0x4b, 4]⟩) 9 = .err 2 := finE_eq (by decide +kernel)
set_option maxRecDepth 100000 in
theorem ex_c : inflF (textBits ⟨#[0x4b, 4, 0]⟩) 0 = .err 12 := finE_eq (by decide +kernel)
set_option maxRecDepth 100000 in
theorem exr_a {t : ByteArray} {u e : Int} (h : InfRes (textBits ⟨#[0x4b, 4, 0]⟩) 9 t u e) : t = ⟨#[97]⟩ ∧ u = 3 ∧ e = 0 := by
  unfold InfRes at h
  rw [ex_a] at h
  exact h
set_option maxRecDepth 100000 in
theorem exr_b {t : ByteArray} {u e : Int} (h : InfRes (textBits ⟨#[0x4b, 4]⟩) 9 t u e) : e = 2 := by
  unfold InfRes at h
  rw [ex_b] at h
  exact h.2.2
set_option maxRecDepth 100000 in
theorem exr_c {t : ByteArray} {u e : Int} (h : InfRes (textBits ⟨#[0x4b, 4, 0]⟩) 0 t u e) : e = 12 := by
  unfold InfRes at h
  rw [ex_c] at h
  exact h.2.2
end Go.Proofs.Ytpbodonmiepilaa
/- inflate: tokens in several blocks, plainly; slices of tokens. -/
namespace Go.Proofs.Ytpbodonmiepilaa
open Go.RowKit

theorem exp_split {most : Int} : ∀ (a b : List Tok) (out r : List Int), exp most (a ++ b) out = .ok r → ∃ m, exp most a out = .ok m ∧ exp most b m = .ok r := by
  intro a
  induction a with
  | nil => intro b out r h; exact ⟨out, rfl, h⟩
  | cons t l ih =>
    intro b out r h
    rw [List.cons_append, exp] at h
    rw [exp]
    by_cases h1 : may t out.length = false
    · rw [if_pos h1] at h; cases h
    · rw [if_neg h1] at h ⊢
      by_cases h2 : IntKind.i64.wrap (most - out.length) < max t.len 1
      · rw [if_pos h2] at h; cases h
      · rw [if_neg h2] at h ⊢
        by_cases h3 : t.len = 0
        · rw [if_pos h3] at h ⊢; exact ih _ _ _ h
        · rw [if_neg h3] at h ⊢; exact ih _ _ _ h

/-- Bits that are unpacked as a beginning of the tokens' text, and do not end there. -/
def Pre (most : Int) (l : List Tok) (k : Nat) (bits : List Bool) : Prop :=
  ∃ res, exp most (l.take k) [] = .ok res ∧ (res.length : Int) ≤ most ∧ ∀ bs r, At bs 0 (bits ++ r) → Steps bs most Inf.init ⟨bits.length, res, none, false⟩ ∧ At bs bits.length r
theorem pre_nil {most : Int} {l : List Tok} (h0 : 0 ≤ most) : Pre most l 0 [] := ⟨[], rfl, by simpa using h0, fun bs r h => ⟨.refl _, by simpa using h⟩⟩
theorem pre_cut {most : Int} {l : List Tok} {k m : Nat} {fin res : List Int} (he : exp most l [] = .ok fin) (hk : exp most (l.take k) [] = .ok res) (hkm : k ≤ m) :
    ∃ r2, exp most (l.take m) [] = .ok r2 ∧ exp most ((l.take m).drop k) res = .ok r2 := by
  obtain ⟨r2, h1, -⟩ := exp_split (l.take m) (l.drop m) [] fin (by rw [List.take_append_drop]; exact he)
  have h2 : l.take m = l.take k ++ (l.take m).drop k := by
    conv => lhs; rw [← List.take_append_drop k (l.take m)]
    rw [List.take_take, Nat.min_eq_left hkm]
  obtain ⟨m1, h3, h4⟩ := exp_split (l.take k) ((l.take m).drop k) [] r2 (by rw [← h2]; exact h1)
  rw [hk] at h3
  cases h3
  exact ⟨r2, h1, h4⟩
theorem pre_block {most : Int} {l : List Tok} {k m : Nat} {bits : List Bool} {fin : List Int} (kind : Int) (hl : ∀ t ∈ l, TokOk t) (hn : l.length ≤ 1000000) (hm : most ≤ 1000000) (he : exp most l [] = .ok fin) (h : Pre most l k bits) (hkm : k ≤ m) :
    Pre most l m (bits ++ blockB ((l.take m).drop k) kind false) := by
  obtain ⟨res, h1, h2, h3⟩ := h
  obtain ⟨r2, h4, h5⟩ := pre_cut he h1 hkm
  have hlen : ((l.take m).drop k).length ≤ 1000000 := by rw [List.length_drop, List.length_take]; omega
  have hl' : ∀ t ∈ (l.take m).drop k, TokOk t := fun t ht => hl t (List.mem_of_mem_take (List.mem_of_mem_drop ht))
  have hle : (r2.length : Int) ≤ most := by
    have ha := h3 (bits ++ (blockB ((l.take m).drop k) kind false ++ [])) (blockB ((l.take m).drop k) kind false ++ []) ⟨Nat.zero_le _, rfl⟩
    exact (block_steps hl' hlen (by omega) h5 h2 ha.2).2.2
  refine ⟨r2, h4, hle, fun bs r ha => ?_⟩
  rw [List.append_assoc] at ha
  obtain ⟨h6, h7⟩ := h3 bs _ ha
  obtain ⟨h8, h9, -⟩ := block_steps hl' hlen (by omega) h5 h2 h7
  rw [List.length_append]
  exact ⟨h6.trans h8, h9⟩
theorem pre_last {most : Int} {l : List Tok} {k : Nat} {bits : List Bool} {fin : List Int} (kind : Int) (hl : ∀ t ∈ l, TokOk t) (hn : l.length ≤ 1000000) (hm : most ≤ 1000000) (he : exp most l [] = .ok fin) (h : Pre most l k bits) :
    Unp (bits ++ blockB (l.drop k) kind true) most fin := by
  obtain ⟨res, h1, h2, h3⟩ := h
  obtain ⟨m1, h4, h5⟩ := exp_split (l.take k) (l.drop k) [] fin (by rw [List.take_append_drop]; exact he)
  rw [h1] at h4
  cases h4
  intro bs r ha
  rw [List.append_assoc] at ha
  obtain ⟨h6, h7⟩ := h3 bs _ ha
  obtain ⟨h8, -, -⟩ := block_steps (fun t ht => hl t (List.mem_of_mem_drop ht)) (by rw [List.length_drop]; omega) (by omega) h5 h2 h7
  rw [List.length_append]
  exact h6.trans h8
/-- A slice of what is read. -/
theorem Rd.sliced {w : World} {size n k m c : Nat} {a : Option Addr} {xs : List Value} (h : Rd w size (.slice a n c) n xs) (hk : k ≤ m) (hm : m ≤ n) :
    Rd w size (sliced a k m c size) (m - k) ((xs.take (m * size)).drop (k * size)) := by
  have h1 := h.take hm
  cases a with
  | none =>
    obtain ⟨hl, a, c', e, h1, h2, h3, h4⟩ := h
    cases e
    obtain ⟨rfl, rfl⟩ := h3 rfl
    obtain rfl : m = 0 := by omega
    obtain rfl : k = 0 := by omega
    obtain rfl : xs = [] := List.eq_nil_of_length_eq_zero (by simpa using hl)
    simpa [_root_.Go.sliced] using Rd.nil w size
  | some ad =>
    have h2 := h1.tail hk
    unfold _root_.Go.sliced
    by_cases hc : c = k
    · obtain ⟨hl, a, c', e, h1, h2, h3, h4⟩ := h
      cases e
      obtain rfl : m = k := by omega
      rw [if_pos hc, Nat.sub_self, List.drop_eq_nil_of_le (by rw [List.length_take]; omega)]
      exact ⟨by simp, _, _, rfl, by omega, by omega, by simp, fun ad _ j u hu => by simp at hu⟩
    · rw [if_neg hc]
      exact h2
theorem Reads.sliced {w0 : World} {ps : List Piece} {n k m c : Nat} {a : Option Addr} {l : List Tok} (h : Reads w0 ps 3 (.slice a n c) n (rows tcell l)) (hk : k ≤ m) (hm : m ≤ n) :
    Reads w0 ps 3 (sliced a k m c 3) (m - k) (rows tcell ((l.take m).drop k)) := fun w' h' => by
  have := (h w' h').sliced hk hm
  rw [rows_take tcell tcell_length, rows_drop tcell tcell_length] at this
  exact this
theorem wpList_slice_from {P : Program} {ops : Array Oper} {rest : List Oper} {o : Oper} {a : Act} {w : World} {Q : Exit → Act → World → Prop} (hgd : o.guard = none) {ty : TypeId} (x lo : Operand) (ho : o.op = .slice ty x (some lo) none none)
    (ht : P.underlying ty = some (.slice (P.elem ty))) {size : Nat} (hsz : ∀ w, (sizeOf (P.elem ty)).run P w = .ok size w) {ad : Option Addr} {n c k : Nat} (hx : a.eval x = .slice ad n c) (hlo : a.eval lo = .int .i64 k) (hk : k ≤ n) {tv : Value} (hv : Hid (sliced ad k n c size = tv))
    (h : wpList P ops Q rest (a.put o.dst tv) w) : wpList P ops Q (o :: rest) a w := by
  refine wpList_plain hgd fun K hK => ?_
  have hr := run_slice_l (P := P) (w := w) ty ad n c ht .i64 (k : Int) (by omega) (by omega)
  rw [hsz, Result.andThen_ok, Int.toNat_natCast, hv.out] at hr
  unfold Oper.wp execOp
  simp only [ho, Sem.run_bind, Sem.run_pure, hx, hlo, Option.map_some, Option.map_none]
  rw [run_sliceAt_slice w ty _ _ _ _ ht, hr, Result.andThen_ok]
  exact hK _ _ h
/-- What is packed, in however many bits. -/
def Packed2 (s p : ByteArray) : Prop := ∃ Bs, p = textOf Bs ∧ Unp Bs s.size (byteNums s)
theorem packed2_back {s p t : ByteArray} {u e : Int} (hp : Packed2 s p) (h : InfRes (textBits p) s.size t u e) : t = s ∧ u = p.size ∧ e = 0 := by
  obtain ⟨bits, rfl, hu⟩ := hp
  have hi := infl_text (behind := ByteArray.empty) rfl hu
  rw [ByteArray.append_empty] at hi
  unfold InfRes at h
  rw [hi] at h
  obtain ⟨h1, h2, h3⟩ := h
  rw [strOf_nums] at h1
  exact ⟨h1, by rw [h2, textOf_size], h3⟩
end Go.Proofs.Ytpbodonmiepilaa
/- split: tokens in blocks up to cuts, plainly. No program in sight. -/
namespace Go.Proofs.Ytpbodonmiepilaa
open Go.RowKit

/-- A limit that is just enough. -/
theorem exp_tight {m M : Int} (hm : m ≤ 4611686018427387904) (hM : M ≤ 4611686018427387904) : ∀ (l : List Tok) (x r : List Int), exp m l x = .ok r → (x.length : Int) ≤ m → (r.length : Int) ≤ M → exp M l x = .ok r ∧ x.length ≤ r.length ∧ r.length ≤ x.length + 258 * l.length ∧ ∀ t ∈ l, TokOk t := by
  intro l
  induction l with
  | nil => intro x r h hx hr; cases h; exact ⟨rfl, Nat.le_refl _, by simp, fun t h => by cases h⟩
  | cons t l ih =>
    intro x r h hx hr
    rw [exp] at h ⊢
    by_cases hy : may t x.length = false
    · rw [if_pos hy] at h; cases h
    rw [if_neg hy] at h ⊢
    have hmt : may t x.length = true := by simpa using hy
    have hok := may_ok hmt
    have w1 : IntKind.i64.wrap (m - (x.length : Int)) = m - x.length := IntWalk.i64_in _ ⟨by omega, by omega⟩
    rw [w1] at h
    by_cases hl : m - (x.length : Int) < max t.len 1
    · rw [if_pos hl] at h; cases h
    rw [if_neg hl] at h
    by_cases h0 : t.len = 0
    · rw [if_pos h0] at h ⊢
      obtain ⟨h1, h2, h3, h4⟩ := ih _ _ h (by rw [List.length_append]; simp; omega) hr
      rw [List.length_append] at h2 h3
      simp only [List.length_cons, List.length_nil] at h2 h3
      have w2 : IntKind.i64.wrap (M - (x.length : Int)) = M - x.length := IntWalk.i64_in _ ⟨by omega, by omega⟩
      rw [w2, if_neg (by omega), h1]
      exact ⟨rfl, by omega, by rw [List.length_cons]; omega, fun t' ht' => by rcases List.mem_cons.1 ht' with rfl | h'; exact hok; exact h4 t' h'⟩
    · rw [if_neg h0] at h ⊢
      have h3l : 3 ≤ t.len ∧ t.len ≤ 258 := by rcases hok with h' | h' <;> omega
      obtain ⟨h1, h2, h3, h4⟩ := ih _ _ h (by rw [copyN_length]; omega) hr
      rw [copyN_length] at h2 h3
      have w2 : IntKind.i64.wrap (M - (x.length : Int)) = M - x.length := IntWalk.i64_in _ ⟨by omega, by omega⟩
      rw [w2, if_neg (by omega), h1]
      exact ⟨rfl, by omega, by rw [List.length_cons]; omega, fun t' ht' => by rcases List.mem_cons.1 ht' with rfl | h'; exact hok; exact h4 t' h'⟩
theorem exp_len {m : Int} : ∀ (l : List Tok) (x r : List Int), exp m l x = .ok r → r.length ≤ x.length + 258 * l.length ∧ ∀ t ∈ l, TokOk t := by
  intro l
  induction l with
  | nil => intro x r h; cases h; exact ⟨by simp, fun t h => by cases h⟩
  | cons t l ih =>
    intro x r h
    rw [exp] at h
    by_cases hy : may t x.length = false
    · rw [if_pos hy] at h; cases h
    rw [if_neg hy] at h
    have hok := may_ok (show may t x.length = true by simpa using hy)
    split at h
    · cases h
    by_cases h0 : t.len = 0
    · rw [if_pos h0] at h
      obtain ⟨h1, h2⟩ := ih _ _ h
      rw [List.length_append] at h1
      simp only [List.length_cons, List.length_nil] at h1
      exact ⟨by rw [List.length_cons]; omega, fun t' ht' => by rcases List.mem_cons.1 ht' with rfl | h'; exact hok; exact h2 t' h'⟩
    · rw [if_neg h0] at h
      have h3l : 3 ≤ t.len ∧ t.len ≤ 258 := by rcases hok with h' | h' <;> omega
      obtain ⟨h1, h2⟩ := ih _ _ h
      rw [copyN_length] at h1
      exact ⟨by rw [List.length_cons]; omega, fun t' ht' => by rcases List.mem_cons.1 ht' with rfl | h'; exact hok; exact h2 t' h'⟩
theorem exp_err2 {m : Int} : ∀ (l : List Tok) (x : List Int) (e : Nat), exp m l x = .err e → e = 2 ∨ e = 12 := by
  intro l
  induction l with
  | nil => intro x e h; cases h
  | cons t l ih =>
    intro x e h
    rw [exp] at h
    split at h
    · cases h; exact .inl rfl
    split at h
    · cases h; exact .inr rfl
    split at h
    · exact ih _ _ h
    · exact ih _ _ h
/-- What is amiss with a cut and a kind. -/
def wbad (N : Nat) (fr c k : Int) : Bool := decide (c < fr) || decide ((N : Int) < c) || decide (k < 1) || decide (2 < k)
/-- The bits of blocks up to each cut, or nothing. -/
def wloop (T : List Tok) : List (Int × Int) → Nat → List Bool → Option (List Bool)
  | [], _, bs => some bs
  | (c, k) :: r, fr, bs => if wbad T.length fr c k then none else wloop T r c.toNat (bs ++ blockB ((T.take c.toNat).drop fr) k r.isEmpty)
def wfalls (N : Nat) : List (Int × Int) → Int → Bool
  | [], _ => false
  | (c, k) :: r, fr => wbad N fr c k || wfalls N r c
theorem wloop_falls (T : List Tok) : ∀ (l : List (Int × Int)) (fr : Nat) (bs : List Bool), (wloop T l fr bs).isNone = wfalls T.length l fr := by
  intro l
  induction l with
  | nil => intro fr bs; rfl
  | cons p r ih =>
    obtain ⟨c, k⟩ := p
    intro fr bs
    rw [wloop, wfalls]
    by_cases h : wbad T.length fr c k = true
    · rw [if_pos h, h]; rfl
    · rw [if_neg h, ih]
      have h' : wbad T.length fr c k = false := by simpa using h
      rw [h']
      have hc : ¬ c < fr := fun hh => by unfold wbad at h'; rw [decide_eq_true hh] at h'; simp at h'
      rw [Int.toNat_of_nonneg (by omega)]
      rfl
theorem wbad_no {N : Nat} {fr c k : Int} (h : wbad N fr c k = false) : fr ≤ c ∧ c ≤ N ∧ 1 ≤ k ∧ k ≤ 2 := by
  unfold wbad at h
  simp only [Bool.or_eq_false_iff, decide_eq_false_iff_not] at h
  omega
/-- What is packed so is unpacked. -/
theorem wloop_unp {most : Int} {T : List Tok} {fin : List Int} (hl : ∀ t ∈ T, TokOk t) (hn : T.length ≤ 1000000) (hm : most ≤ 1000000) (he : exp most T [] = .ok fin) :
    ∀ (l : List (Int × Int)) (fr : Nat) (bs R : List Bool), fr ≤ T.length → l ≠ [] → (∀ p, l.getLast? = some p → p.1 = T.length) → Pre most T fr bs → wloop T l fr bs = some R →
      Unp R most fin ∧ R.length ≤ bs.length + l.length * (48 * T.length + 15000) := by
  intro l
  induction l with
  | nil => intro fr bs R _ h; exact absurd rfl h
  | cons p r ih =>
    obtain ⟨c, k⟩ := p
    intro fr bs R hfr _ hlast hpre hw
    rw [wloop] at hw
    by_cases h : wbad T.length fr c k = true
    · rw [if_pos h] at hw; cases hw
    rw [if_neg h] at hw
    obtain ⟨h1, h2, h3, h4⟩ := wbad_no (by simpa using h)
    obtain ⟨c, rfl⟩ : ∃ n : Nat, c = n := ⟨c.toNat, by omega⟩
    rw [Int.toNat_natCast] at hw
    have hbl : ((T.take c).drop fr).length ≤ T.length := by rw [List.length_drop, List.length_take]; omega
    have hsz := blockB_size (l := (T.take c).drop fr) (fun t ht => hl t (List.mem_of_mem_take (List.mem_of_mem_drop ht))) (by omega) k
    cases r with
    | nil =>
      rw [wloop] at hw
      cases hw
      have hcT : c = T.length := by have := hlast _ rfl; simp at this; omega
      have hd : (T.take c).drop fr = T.drop fr := by rw [hcT, List.take_length]
      refine ⟨?_, ?_⟩
      · rw [hd]; exact pre_last k hl hn hm he hpre
      · have := hsz true
        rw [List.length_append]
        simp only [List.isEmpty_nil, List.length_cons, List.length_nil]
        omega
    | cons p2 r2 =>
      have hp2 := pre_block k hl hn hm he hpre (show fr ≤ c by omega)
      obtain ⟨h5, h6⟩ := ih c _ R (by omega) (by simp) (fun p hp => hlast p (by rw [List.getLast?_cons_cons]; exact hp)) hp2 hw
      refine ⟨h5, ?_⟩
      have := hsz false
      rw [List.length_append] at h6
      rw [List.length_cons, Nat.add_mul]
      omega
end Go.Proofs.Ytpbodonmiepilaa
/- lz: the walks of what tells whether a token may stand. -/
namespace Go.Proofs.Ytpbodonmiepilaa
open Go.RowKit

set_option maxHeartbeats 1600000 in
theorem right_any (t : Tok) (n : Nat) (w : World) : Calls Try.prog 39 #[tval t, .int .i64 n] w (Ret fun v w' => v = .bool (may t n) ∧ Own w w' []) := by
  obtain ⟨a, b, c⟩ := t
  have H := (Own.start w).alloc' (.cells #[.int .i64 a, .int .i64 b, .int .i64 c] 46)
  unfold tval
  go_enter Try.func39, Try.ntmps39
  by_cases ha : a = 0
  · subst ha
    have e : Hid (may ⟨0, b, c⟩ n = decide (b = 0 ∧ 0 ≤ c ∧ c < 256)) := Lib.hid (by unfold may; rw [if_pos rfl])
    rw [e.out]
    by_cases hb : b = 0
    · subst hb
      by_cases h1 : 0 ≤ c
      · by_cases h2 : c < 256
        · have e : Hid (decide ((0 : Int) = 0 ∧ 0 ≤ c ∧ c < 256) = true) := Lib.hid (decide_eq_true ⟨rfl, h1, h2⟩)
          rw [e.out]
          go_wp2
          go_ret
          exact ⟨_, rfl, rfl, H⟩
        · have e : Hid (decide ((0 : Int) = 0 ∧ 0 ≤ c ∧ c < 256) = false) := Lib.hid (decide_eq_false (by omega))
          rw [e.out]
          go_wp2
          go_ret
          exact ⟨_, rfl, rfl, H⟩
      · have e : Hid (decide ((0 : Int) = 0 ∧ 0 ≤ c ∧ c < 256) = false) := Lib.hid (decide_eq_false (by omega))
        rw [e.out]
        go_wp2
        go_ret
        exact ⟨_, rfl, rfl, H⟩
    · have e : Hid (decide (b = 0 ∧ 0 ≤ c ∧ c < 256) = false) := Lib.hid (decide_eq_false (by omega))
      have hb' : (b == 0) = false := by simp [hb]
      rw [e.out]
      go_wp2
      go_ret
      exact ⟨_, rfl, rfl, H⟩
  · have ha' : (a == 0) = false := by simp [ha]
    have e : Hid (may ⟨a, b, c⟩ n = decide (c = 0 ∧ 3 ≤ a ∧ a ≤ 258 ∧ 1 ≤ b ∧ b ≤ 32768 ∧ b ≤ n)) := Lib.hid (by unfold may; rw [if_neg ha])
    rw [e.out]
    clear ha e
    by_cases hc : c = 0
    · subst hc
      by_cases h1 : 3 ≤ a
      · by_cases h2 : a ≤ 258
        · by_cases h3 : 1 ≤ b
          · by_cases h4 : b ≤ 32768
            · by_cases h5 : b ≤ (n : Int)
              · have e : Hid (decide ((0 : Int) = 0 ∧ 3 ≤ a ∧ a ≤ 258 ∧ 1 ≤ b ∧ b ≤ 32768 ∧ b ≤ n) = true) := Lib.hid (decide_eq_true (by omega))
                rw [e.out]
                go_wp2
                all_goals
                  go_ret
                  exact ⟨_, rfl, (by first | rfl | (congr 1; simp; omega)), H⟩
              · have e : Hid (decide ((0 : Int) = 0 ∧ 3 ≤ a ∧ a ≤ 258 ∧ 1 ≤ b ∧ b ≤ 32768 ∧ b ≤ n) = false) := Lib.hid (decide_eq_false (by omega))
                rw [e.out]
                go_wp2
                all_goals
                  go_ret
                  exact ⟨_, rfl, (by first | rfl | (congr 1; simp; omega)), H⟩
            · have e : Hid (decide ((0 : Int) = 0 ∧ 3 ≤ a ∧ a ≤ 258 ∧ 1 ≤ b ∧ b ≤ 32768 ∧ b ≤ n) = false) := Lib.hid (decide_eq_false (by omega))
              rw [e.out]
              go_wp2
              all_goals
                go_ret
                exact ⟨_, rfl, (by first | rfl | (congr 1; simp; omega)), H⟩
          · have e : Hid (decide ((0 : Int) = 0 ∧ 3 ≤ a ∧ a ≤ 258 ∧ 1 ≤ b ∧ b ≤ 32768 ∧ b ≤ n) = false) := Lib.hid (decide_eq_false (by omega))
            rw [e.out]
            go_wp2
            go_ret
            exact ⟨_, rfl, rfl, H⟩
        · have e : Hid (decide ((0 : Int) = 0 ∧ 3 ≤ a ∧ a ≤ 258 ∧ 1 ≤ b ∧ b ≤ 32768 ∧ b ≤ n) = false) := Lib.hid (decide_eq_false (by omega))
          rw [e.out]
          go_wp2
          go_ret
          exact ⟨_, rfl, rfl, H⟩
      · have e : Hid (decide ((0 : Int) = 0 ∧ 3 ≤ a ∧ a ≤ 258 ∧ 1 ≤ b ∧ b ≤ 32768 ∧ b ≤ n) = false) := Lib.hid (decide_eq_false (by omega))
        rw [e.out]
        go_wp2
        go_ret
        exact ⟨_, rfl, rfl, H⟩
    · have e : Hid (decide (c = 0 ∧ 3 ≤ a ∧ a ≤ 258 ∧ 1 ≤ b ∧ b ≤ 32768 ∧ b ≤ n) = false) := Lib.hid (decide_eq_false (by omega))
      have hc' : (c == 0) = false := by simp [hc]
      rw [e.out]
      go_wp2
      go_ret
      exact ⟨_, rfl, rfl, H⟩

set_option maxHeartbeats 1600000 in
theorem may_any (t : Tok) (n : Nat) (w : World) : Calls Try.prog 28 #[tval t, .int .i64 n] w (Ret fun v w' => v = .bool (may t n) ∧ Own w w' []) := by
  obtain ⟨a, b, c⟩ := t
  have H := (Own.start w).alloc' (.cells #[.int .i64 a, .int .i64 b, .int .i64 c] 46)
  unfold tval
  go_enter Try.func28, Try.ntmps28
  by_cases ha : a = 0
  · subst ha
    have e : Hid (may ⟨0, b, c⟩ n = decide (b = 0 ∧ 0 ≤ c ∧ c < 256)) := Lib.hid (by unfold may; rw [if_pos rfl])
    rw [e.out]
    by_cases hb : b = 0
    · subst hb
      by_cases h1 : 0 ≤ c
      · by_cases h2 : c ≤ 255
        · have e : Hid (decide ((0 : Int) = 0 ∧ 0 ≤ c ∧ c < 256) = true) := Lib.hid (decide_eq_true (by omega))
          rw [e.out]
          go_wp2
          go_ret
          exact ⟨_, rfl, rfl, H⟩
        · have e : Hid (decide ((0 : Int) = 0 ∧ 0 ≤ c ∧ c < 256) = false) := Lib.hid (decide_eq_false (by omega))
          rw [e.out]
          go_wp2
          go_ret
          exact ⟨_, rfl, rfl, H⟩
      · have e : Hid (decide ((0 : Int) = 0 ∧ 0 ≤ c ∧ c < 256) = false) := Lib.hid (decide_eq_false (by omega))
        rw [e.out]
        go_wp2
        go_ret
        exact ⟨_, rfl, rfl, H⟩
    · have e : Hid (decide (b = 0 ∧ 0 ≤ c ∧ c < 256) = false) := Lib.hid (decide_eq_false (by omega))
      have hb' : (b == 0) = false := by simp [hb]
      rw [e.out]
      go_wp2
      go_ret
      exact ⟨_, rfl, rfl, H⟩
  · have ha' : (a == 0) = false := by simp [ha]
    have e : Hid (may ⟨a, b, c⟩ n = decide (c = 0 ∧ 3 ≤ a ∧ a ≤ 258 ∧ 1 ≤ b ∧ b ≤ 32768 ∧ b ≤ n)) := Lib.hid (by unfold may; rw [if_neg ha])
    rw [e.out]
    clear ha e
    by_cases hc : c = 0
    · subst hc
      by_cases h1 : 3 ≤ a
      · by_cases h2 : a ≤ 258
        · by_cases h3 : 1 ≤ b
          · by_cases h4 : b ≤ 32768
            · by_cases h5 : b ≤ (n : Int)
              · have e : Hid (decide ((0 : Int) = 0 ∧ 3 ≤ a ∧ a ≤ 258 ∧ 1 ≤ b ∧ b ≤ 32768 ∧ b ≤ n) = true) := Lib.hid (decide_eq_true (by omega))
                rw [e.out]
                go_wp2
                go_ret
                exact ⟨_, rfl, rfl, H⟩
              · have e : Hid (decide ((0 : Int) = 0 ∧ 3 ≤ a ∧ a ≤ 258 ∧ 1 ≤ b ∧ b ≤ 32768 ∧ b ≤ n) = false) := Lib.hid (decide_eq_false (by omega))
                rw [e.out]
                go_wp2
                go_ret
                exact ⟨_, rfl, rfl, H⟩
            · have e : Hid (decide ((0 : Int) = 0 ∧ 3 ≤ a ∧ a ≤ 258 ∧ 1 ≤ b ∧ b ≤ 32768 ∧ b ≤ n) = false) := Lib.hid (decide_eq_false (by omega))
              rw [e.out]
              go_wp2
              go_ret
              exact ⟨_, rfl, rfl, H⟩
          · have e : Hid (decide ((0 : Int) = 0 ∧ 3 ≤ a ∧ a ≤ 258 ∧ 1 ≤ b ∧ b ≤ 32768 ∧ b ≤ n) = false) := Lib.hid (decide_eq_false (by omega))
            rw [e.out]
            go_wp2
            go_ret
            exact ⟨_, rfl, rfl, H⟩
        · have e : Hid (decide ((0 : Int) = 0 ∧ 3 ≤ a ∧ a ≤ 258 ∧ 1 ≤ b ∧ b ≤ 32768 ∧ b ≤ n) = false) := Lib.hid (decide_eq_false (by omega))
          rw [e.out]
          go_wp2
          go_ret
          exact ⟨_, rfl, rfl, H⟩
      · have e : Hid (decide ((0 : Int) = 0 ∧ 3 ≤ a ∧ a ≤ 258 ∧ 1 ≤ b ∧ b ≤ 32768 ∧ b ≤ n) = false) := Lib.hid (decide_eq_false (by omega))
        rw [e.out]
        go_wp2
        go_ret
        exact ⟨_, rfl, rfl, H⟩
    · have e : Hid (decide (c = 0 ∧ 3 ≤ a ∧ a ≤ 258 ∧ 1 ≤ b ∧ b ≤ 32768 ∧ b ≤ n) = false) := Lib.hid (decide_eq_false (by omega))
      have hc' : (c == 0) = false := by simp [hc]
      rw [e.out]
      go_wp2
      go_ret
      exact ⟨_, rfl, rfl, H⟩
end Go.Proofs.Ytpbodonmiepilaa
/- lz: the walk of Expand. -/
namespace Go.Proofs.Ytpbodonmiepilaa
open Go.RowKit

def resVal : Res → Value
  | .err e => .tuple #[.string ⟨#[]⟩, .int .i64 e]
  | .ok out => .tuple #[.string (strOfNums out), .int .i64 0]

set_option maxRecDepth 100000 in
set_option maxHeartbeats 3200000 in
theorem expand_any {w : World} {v : Value} (l : List Tok) (most : Int) (hR : Rd w 3 v l.length (rows tcell l)) (hl : l.length ≤ 3000) :
    Calls Try.prog 26 #[v, .int .i64 most] w (Ret fun r w' => r = resVal (exp most l []) ∧ Own w w' []) := by
  obtain ⟨R, hRR⟩ : ∃ R, Hid (exp most l [] = R) := ⟨_, rfl⟩
  rw [hRR.out]
  obtain ⟨N, hN⟩ : ∃ N, Hid (l.length = N) := ⟨_, rfl⟩
  rw [hN.out] at hR hl
  have HR := Lib.hid hR
  obtain ⟨a, c, rfl, hc1, hc2⟩ := hR.shape
  clear hR
  have H := (Own.start w).nil 5 1
  go_enter Try.func26, Try.ntmps26
  go_wp2_with fail
  go_loopw [6, 11] (fun s6 s11 wr => ∃ (k : Nat) (out : List Int), s11 = .int .i64 k ∧ k ≤ N ∧ Hid (exp most (l.drop k) out = R) ∧ out.length ≤ 258 * k ∧ Own w wr [slc 5 1 s6 out.length (bcells out)]) (fun _ s11 _ => N - (intOf s11).toNat)
  case atStart => exact ⟨0, [], by simp, by omega, hRR, by simp, H⟩
  case round =>
    clear H
    obtain ⟨k, out, rfl, hk, hex, hol, H⟩ := hrel
    by_cases hkN : k < N
    · have hkI : (k : Int) < (N : Int) := by omega
      obtain ⟨t, ht⟩ : ∃ t, l[k]? = some t := ⟨l[k]'(by rw [hN.out]; exact hkN), List.getElem?_eq_getElem _⟩
      have hdrop : l.drop k = t :: l.drop (k + 1) := by
        obtain ⟨hk', rfl⟩ := List.getElem?_eq_some_iff.1 ht
        exact List.drop_eq_getElem_cons hk'
      have hex' := hex.out
      rw [hdrop, exp] at hex'
      clear hex hdrop
      obtain ⟨b, o, c', he, hc1', hc2', hcell⟩ := HR.out.at (by rw [HR.out.len]; omega)
      cases he
      have HT := Lib.hid ht
      clear ht hcell
      obtain ⟨c1, c2, c3⟩ := tok_cells (HR.out.old H) HT.out
      obtain ⟨x, y, z⟩ := t
      simp only at c1 c2 c3
      obtain ⟨n, hn⟩ : ∃ n, Hid (out.length = n) := ⟨_, rfl⟩
      rw [hn.out] at H hol hex'
      obtain ⟨a', d', rfl, hd1, hd2⟩ := H.rd.shape
      go_upto_region 5 with (refine wpList_store_agg rfl _ _ rfl rfl (H.alloc _) rfl (by kernel_rfl) (by simp) (by simp; exact ⟨rfl, rfl, rfl⟩) rfl ?_; clear H; intro w5 H)
      generalize wr.heap.size = cb at *
      have H : Own w w5 (blk cb (.cells #[.int .i64 x, .int .i64 y, .int .i64 z] 46) :: [slc 5 1 (.slice a' n d') n (bcells out)]) := H
      clear c1 c2 c3
      have c0 := H.cells
      go_wp2_with fail
      refine (right_any ⟨x, y, z⟩ n w5).mono ?_
      rintro e w6 ⟨_, rfl, rfl, H6⟩
      replace H := H.join H6
      have H : Own w w6 (blk cb (.cells #[.int .i64 x, .int .i64 y, .int .i64 z] 46) :: [slc 5 1 (.slice a' n d') n (bcells out)]) := H
      clear H6 c0
      have c0 := H.cells
      obtain ⟨mb, hmb⟩ : ∃ mb, Hid (may ⟨x, y, z⟩ n = mb) := ⟨_, rfl⟩
      rw [hmb.out] at hex' ⊢
      cases mb with
      | false =>
        rw [if_pos rfl] at hex'
        have hfin := Lib.hid hex'
        clear hex'
        go_wp2
        go_ret2
        exact ⟨_, rfl, by rw [← hfin.out]; rfl, H.bare⟩
      | true =>
        rw [if_neg (by simp)] at hex'
        obtain ⟨r, hr⟩ : ∃ r, Hid (IntKind.i64.wrap (most - (n : Int)) = r) := ⟨_, rfl⟩
        have hrw := hr.out
        rw [hrw] at hex'
        obtain ⟨m, rfl⟩ : ∃ m : Nat, x = m := by
          by_cases hx0 : x = 0
          · exact ⟨0, by omega⟩
          · have := may_back hmb.out hx0; exact ⟨x.toNat, by omega⟩
        obtain ⟨d, rfl⟩ : ∃ d : Nat, y = d := by
          by_cases hx0 : (m : Int) = 0
          · have := may_lit hmb.out hx0; exact ⟨0, by omega⟩
          · have := may_back hmb.out hx0; exact ⟨y.toNat, by omega⟩
        have hM : Hid ((m = 0 ∧ d = 0 ∧ 0 ≤ z ∧ z < 256) ∨ (z = 0 ∧ 3 ≤ m ∧ m ≤ 258 ∧ 1 ≤ d ∧ d ≤ n)) := Lib.hid (by
          by_cases hx0 : (m : Int) = 0
          · have := may_lit hmb.out hx0; left; omega
          · have := may_back hmb.out hx0; right; omega)
        have herr : R = .err 12 → ∀ wz, Own w wz [blk cb (.cells #[.int .i64 m, .int .i64 d, .int .i64 z] 46), slc 5 1 (.slice a' n d') n (bcells out)] → ∃ v, Ending.returned (.tuple #[.string ⟨#[]⟩, .int .i64 12]) = .returned v ∧ v = resVal R ∧ Own w wz [] := fun h wz hz => ⟨_, rfl, by rw [h]; rfl, hz.bare⟩
        have HE := Lib.hid herr
        clear herr
        by_cases hm0 : m = 0
        case' pos =>
          have hmz : ((m : Int) == 0) = true := by simp [hm0]
          have hm1 : (m : Int) < 1 := by omega
          rw [show max (m : Int) 1 = 1 by omega, if_pos (show (m : Int) = 0 by omega)] at hex'
          by_cases hlim : r < 1
          case' pos =>
            rw [if_pos hlim] at hex'
            have hfin := Lib.hid hex'.symm
            clear hex' hm0
            go_wp2
            go_ret2
            exact HE.out hfin.out _ H
          rw [if_neg hlim] at hex'
          have hwz : IntKind.u8.wrap z = z := by rw [IntKind.wrap_u8]; have := hM.out; omega
          have hc0 : copyN d (out ++ [z]) m = out ++ [z] := by rw [hm0]; rfl
          have hE : Hid (exp most (l.drop (k + 1)) (copyN d (out ++ [z]) m) = R) := Lib.hid (by rw [hc0]; exact hex')
          have hdn : Hid (m = 0 ∨ (1 ≤ d ∧ d ≤ n + 1)) := Lib.hid (.inl (by omega))
          have hn1 : n + 1 + m ≤ 258 * (k + 1) := by omega
          have hlen : Hid ((out ++ [z]).length = n + 1) := Lib.hid (by rw [List.length_append, hn.out]; rfl)
          clear hex' hm0 hM hr hc0 HE
          go_upto_region 11 with (at_builtin; refine wpList_append_one rfl _ _ rfl Try.underlying54 u8Info rfl (by decide) rfl H.swap (news := [.int .u8 z]) rfl rfl rfl (by simp [Value.oneCell']) (by omega) (by omega) ?_; clear H c0; intro v' w7 H; replace H := H.swap; have c0 := H.cells)
          rw [bcells_snoc] at H
          clear hlim hwz
          generalize out ++ [z] = out1 at *
          generalize n + 1 = n1 at *
        case' neg =>
          have hmz : ((m : Int) == 0) = false := by simp; omega
          have hm1 : ¬ (m : Int) < 1 := by omega
          rw [show max (m : Int) 1 = m by omega, if_neg (show ¬ (m : Int) = 0 by omega)] at hex'
          by_cases hlim : r < m
          case' pos =>
            rw [if_pos hlim] at hex'
            have hfin := Lib.hid hex'.symm
            clear hex' hm0
            go_wp2
            go_ret2
            exact HE.out hfin.out _ H
          rw [if_neg hlim] at hex'
          have hE : Hid (exp most (l.drop (k + 1)) (copyN d out m) = R) := Lib.hid (by simpa using hex')
          have hdn : Hid (m = 0 ∨ (1 ≤ d ∧ d ≤ n)) := Lib.hid (by have := hM.out; omega)
          have hn1 : n + m ≤ 258 * (k + 1) := by have := hM.out; omega
          have hlen : Hid (out.length = n) := hn
          clear hex' hm0 hM hr HE
          go_upto_region 11 with (fail)
          clear hlim
          generalize (Value.slice a' n d') = v' at *
          generalize out = out1 at *
          generalize n = n1 at *
        all_goals
          clear hm1 hmz
          go_wp2_with fail
          go_loopw [6, 39] (fun s6 s39 wr => ∃ j : Nat, s39 = .int .i64 j ∧ j ≤ m ∧ Own w wr [blk cb (.cells #[.int .i64 m, .int .i64 d, .int .i64 z] 46), slc 5 1 s6 (n1 + j) (bcells (copyN d out1 j))]) (fun _ s39 _ => m - (intOf s39).toNat)
          case atStart => exact ⟨0, by simp, by omega, H⟩
          case round =>
            clear H c0
            obtain ⟨j, rfl, hj, H⟩ := hrel
            by_cases hjm : j < m
            · have hjI : (j : Int) < (m : Int) := by omega
              have hd1 : 1 ≤ d := by have := hdn.out; omega
              have hd2 : d ≤ n1 := by have := hdn.out; omega
              have hcl : (copyN d out1 j).length = n1 + j := by rw [copyN_length, hlen.out]
              obtain ⟨L, hL⟩ : ∃ L, Hid (n1 + j = L) := ⟨_, rfl⟩
              rw [hL.out] at H hcl
              have hLb : L ≤ 800000 := by have := hL.out; omega
              obtain ⟨q, hq⟩ : ∃ q, Hid (L - d = q) := ⟨_, rfl⟩
              have hdL : d ≤ L := by have := hL.out; omega
              have hqI : (L : Int) - (d : Int) = (q : Int) := by have := hq.out; omega
              have hqL : q < L := by have := hq.out; omega
              have hqLI : (q : Int) < (L : Int) := by omega
              obtain ⟨x, hx⟩ : ∃ x, (copyN d out1 j)[q]? = some x := ⟨_, List.getElem?_eq_getElem (by omega)⟩
              have hnx : Hid (copyN d out1 (j + 1) = copyN d out1 j ++ [x]) := Lib.hid (by
                rw [copyN, hcl, hq.out, List.getD_eq_getElem?_getD, hx]; rfl)
              have HX := Lib.hid (bcells_get hx)
              clear hx
              obtain ⟨OJ, hOJ⟩ : ∃ OJ, Hid (copyN d out1 j = OJ) := ⟨_, rfl⟩
              rw [hOJ.out] at H HX hnx
              clear hcl
              obtain ⟨gb, cc, rfl, hg1, hg2, _⟩ := H.swap.at (by rw [bcells_length, ← hOJ.out, copyN_length, hlen.out]; have := hL.out; omega)
              have c0 := H.cells
              have c1 := H.swap.rd.cell HX.out
              rw [Nat.zero_add] at c1
              go_wp2_with (at_builtin; refine wpList_append_one rfl _ _ rfl Try.underlying54 u8Info rfl (by decide) rfl H.swap (news := [.int .u8 x]) rfl rfl rfl (by simp [Value.oneCell']) (by omega) (by omega) ?_; clear H c0 c1; intro v' w7 H; replace H := H.swap)
              go_roundw
              case rel =>
                refine ⟨j + 1, by go_num, by omega, ?_⟩
                rw [hnx.out, ← bcells_snoc, ← Nat.add_assoc, hL.out]
                exact H
              case measure => simp [intOf]; omega
            · have hjI : ¬ (j : Int) < (m : Int) := by omega
              have hjm2 : j = m := by omega
              have hcl : (copyN d out1 m).length = n1 + m := by rw [copyN_length, hlen.out]
              rw [hjm2] at H
              go_wp2_with fail
              go_roundw
              case rel =>
                refine ⟨k + 1, copyN d out1 m, by go_num, by omega, hE, by omega, ?_⟩
                rw [hcl]
                exact H.drop
              case measure => simp [intOf]; omega
    · have hkI : ¬ (k : Int) < (N : Int) := by omega
      have hfin : Hid (R = .ok out) := Lib.hid (by rw [← hex.out, List.drop_eq_nil_of_le (by rw [hN.out]; omega), exp])
      clear hex
      obtain ⟨a', d', rfl, hd1, hd2⟩ := H.rd.shape
      have hst := run_string_sep (P := Try.prog) 54 9 Try.underlying54 Try.underlying5 Try.underlying9 (ns := out) H.rd
      go_wp2
      go_ret2
      exact ⟨_, rfl, by rw [hfin.out]; rfl, H.bare⟩
end Go.Proofs.Ytpbodonmiepilaa
/- split: the walk of With. -/
namespace Go.Proofs.Ytpbodonmiepilaa
open Go.RowKit

def wV : Option (List Bool) → Value
  | none => .tuple #[.string ⟨#[]⟩, .int .i64 1]
  | some R => .tuple #[.string (textOf R), .int .i64 0]
/-- What With answers. -/
def withV (T : List Tok) (cs ks : List Int) : Value :=
  if cs.length = 0 ∨ cs.length ≠ ks.length ∨ cs.getD (cs.length - 1) 0 ≠ T.length then .tuple #[.string ⟨#[]⟩, .int .i64 1]
  else match exp 2147483648 T [] with
    | .err e => .tuple #[.string ⟨#[]⟩, .int .i64 e]
    | .ok _ => wV (wloop T (cs.zip ks) 0 [])
theorem zip_drop {cs ks : List Int} {i : Nat} (h1 : i < cs.length) (h2 : i < ks.length) : (cs.zip ks).drop i = (cs.getD i 0, ks.getD i 0) :: (cs.zip ks).drop (i + 1) := by
  have h : i < (cs.zip ks).length := by rw [List.length_zip]; omega
  rw [List.drop_eq_getElem_cons h, List.getElem_zip]
  simp [List.getD, List.getElem?_eq_getElem h1, List.getElem?_eq_getElem h2]
set_option maxRecDepth 100000 in
set_option maxHeartbeats 6400000 in
theorem with_any {w : World} {tv cv kv : Value} {T : List Tok} {cs ks : List Int} (ht : Rd w 3 tv T.length (rows tcell T)) (hc : Rd w 1 cv cs.length (nums cs)) (hk : Rd w 1 kv ks.length (nums ks)) (hT : T.length ≤ 3000) (hcl : cs.length ≤ 100) (hkl : ks.length ≤ 1000000) :
    Calls Try.prog 14 #[tv, cv, kv] w (Ret fun r w' => r = withV T cs ks ∧ Own w w' []) := by
  obtain ⟨ta, tc, rfl, htc1, htc2⟩ := ht.shape
  obtain ⟨ca, cc, rfl, hcc1, hcc2⟩ := hc.shape
  obtain ⟨ka, kc, rfl, hkc1, hkc2⟩ := hk.shape
  obtain ⟨RV, hRV⟩ : ∃ v, Hid (withV T cs ks = v) := ⟨_, rfl⟩
  have hRV2 := hRV.out
  unfold withV at hRV2
  rw [hRV.out]
  have hex := expand_any T 2147483648 ht hT
  obtain ⟨N, hN⟩ : ∃ N, Hid (T.length = N) := ⟨_, rfl⟩
  obtain ⟨Lc, hLc⟩ : ∃ N, Hid (cs.length = N) := ⟨_, rfl⟩
  obtain ⟨Lk, hLk⟩ : ∃ N, Hid (ks.length = N) := ⟨_, rfl⟩
  rw [hN.out] at ht hRV2 hex htc1 hT ⊢
  rw [hLc.out] at hc hRV2 hcc1 hcl ⊢
  rw [hLk.out] at hk hRV2 hkc1 hkl ⊢
  have HT := Lib.hid ht
  have HC := Lib.hid hc
  have HK := Lib.hid hk
  have HX := Lib.hid hex
  clear ht hc hk hex hRV
  have H := Own.start w
  go_enter Try.func14, Try.ntmps14
  by_cases hA : Lc = 0 ∨ Lc ≠ Lk ∨ cs.getD (Lc - 1) 0 ≠ N
  · rw [if_pos hA] at hRV2
    replace hRV := Lib.hid hRV2
    clear hRV2
    by_cases h0 : Lc = 0
    · have hb : ((Lc : Int) == 0) = true := by simp [h0]
      clear hA h0
      go_wp2
      go_ret2
      exact ⟨_, rfl, hRV.out, H⟩
    · by_cases h1 : Lc = Lk
      · obtain ⟨M, rfl⟩ : ∃ M, Lc = M + 1 := ⟨Lc - 1, by omega⟩
        obtain rfl : Lk = M + 1 := by omega
        have hb : ((M : Int) + 1 == 0) = false := by simp; omega
        obtain ⟨bc, oc, rfl, ccell⟩ := rd_at HC.out H (i := M) (by omega)
        obtain ⟨x, hx⟩ : ∃ x, cs.getD M 0 = x := ⟨_, rfl⟩
        rw [hx] at ccell
        have hx2 : (x != (N : Int)) = true := by
          rcases hA with h | h | h
          · omega
          · exact absurd h1 h
          · rw [Nat.add_sub_cancel, hx] at h; simpa using h
        have hx3 : (x == (N : Int)) = false := by simpa using hx2
        clear hA h0 h1 hx
        go_wp2
        go_ret2
        exact ⟨_, rfl, hRV.out, H⟩
      · have hb : ((Lc : Int) == 0) = false := by simp [h0]
        have hb1 : ((Lc : Int) != (Lk : Int)) = true := by simp; omega
        have hb2 : ((Lc : Int) == (Lk : Int)) = false := by simp; omega
        clear hA h0 h1
        go_wp2
        go_ret2
        exact ⟨_, rfl, hRV.out, H⟩
  · rw [if_neg hA] at hRV2
    obtain ⟨M, rfl⟩ : ∃ M, Lc = M + 1 := ⟨Lc - 1, by omega⟩
    obtain rfl : Lk = M + 1 := by omega
    have hlast : cs.getD M 0 = N := by
      by_cases h : cs.getD M 0 = N
      · exact h
      · exact absurd (.inr (.inr (by rw [Nat.add_sub_cancel]; exact h))) hA
    clear hA
    obtain ⟨bc, oc, rfl, ccell⟩ := rd_at HC.out H (i := M) (by omega)
    rw [hlast] at ccell
    replace hlast := Lib.hid hlast
    have hb : ((M : Int) + 1 == 0) = false := by simp; omega
    obtain ⟨Rx, hRx⟩ : ∃ R, Hid (exp 2147483648 T [] = R) := ⟨_, rfl⟩
    rw [hRx.out] at HX hRV2
    replace hRV := Lib.hid hRV2
    clear hRV2
    go_wp2_with fail
    refine HX.out.mono ?_
    rintro e w1 ⟨_, rfl, rfl, J⟩
    replace H := H.join J
    clear J HX ccell
    cases Rx with
    | err e0 =>
      have he0 : ((e0 : Int) != 0) = true := by
        rcases exp_err2 T [] e0 hRx.out with h | h <;> simp [h]
      have he1 : ((e0 : Int) == 0) = false := by simpa using he0
      have hRV3 : Hid (Value.tuple #[.string ⟨#[]⟩, .int .i64 e0] = RV) := Lib.hid hRV.out
      simp only [resVal]
      clear hRV hRx
      go_wp2
      go_ret2
      exact ⟨_, rfl, hRV3.out, H⟩
    | ok out =>
      have hRV3 : Hid (wV (wloop T (cs.zip ks) 0 []) = RV) := Lib.hid hRV.out
      have hok := (exp_len T [] out hRx.out).2
      have HOK := Lib.hid hok
      simp only [resVal]
      clear hRV hRx hok
      have H2 : Own w (w1.alloc (.cells #[.slice none 0 0, .int .i64 0] 56)) [Wtr w1.heap.size []] := H.newWtr
      clear H
      go_upto_region 7 with (fail)
      generalize w1.alloc _ = w2 at *
      generalize w1.heap.size = g at *
      have hcz : Hid (wloop T ((cs.zip ks).drop 0) 0 [] = wloop T (cs.zip ks) 0 []) := Lib.hid rfl
      obtain ⟨Rr, hRr⟩ : ∃ R, Hid (wloop T (cs.zip ks) 0 [] = R) := ⟨_, rfl⟩
      rw [hRr.out] at hRV3 hcz
      have HR : Hid (∀ ps : List Piece, Reads w ps 3 (.slice ta N tc) N (rows tcell T)) := Lib.hid fun ps w' h => HT.out.old h
      clear hRr hlast hb
      go_wp2_with fail
      go_loopw [11, 45] (fun v11 v45 wx => ∃ (i fr : Nat) (Bs : List Bool), v11 = .int .i64 fr ∧ v45 = .int .i64 i ∧ i ≤ M + 1 ∧ fr ≤ N ∧ Bs.length ≤ i * 200000 ∧ Hid (wloop T ((cs.zip ks).drop i) fr Bs = Rr) ∧ Own w wx [Wtr g Bs]) (fun _ v45 _ => M + 1 - (intOf v45).toNat)
      case atStart => exact ⟨0, 0, [], rfl, rfl, by omega, by omega, by simp, hcz, H2⟩
      case round =>
        clear H2 hcz
        obtain ⟨i, fr, Bs, rfl, rfl, hi, hfr, hbl, hst, H⟩ := hrel
        by_cases hiM : i < M + 1
        · have hiI : (i : Int) < (M : Int) + 1 := by omega
          obtain ⟨b1, o1, e1, cc1⟩ := rd_at HC.out H hiM
          cases e1
          obtain ⟨b2, o2, rfl, cc2⟩ := rd_at HK.out H hiM
          have hzd := zip_drop (cs := cs) (ks := ks) (i := i) (by rw [hLc.out]; exact hiM) (by rw [hLk.out]; exact hiM)
          have hst2 := hst.out
          rw [hzd, wloop] at hst2
          have HC2 : Hid (∀ w' (ps : List Piece), Own w w' ps → w'.cell? ⟨bc, oc + i, none⟩ = some (.int .i64 (cs.getD i 0)) ∧ w'.cell? ⟨b2, o2 + i, none⟩ = some (.int .i64 (ks.getD i 0))) := Lib.hid fun w' ps h => by
            obtain ⟨_, _, e1, h1⟩ := rd_at HC.out h hiM
            obtain ⟨_, _, e2, h2⟩ := rd_at HK.out h hiM
            cases e1; cases e2
            exact ⟨h1, h2⟩
          generalize cs.getD i 0 = x at *
          generalize ks.getD i 0 = kd at *
          replace hst2 := Lib.hid hst2
          clear hst hzd
          by_cases hbad : wbad T.length fr x kd = true
          · have hn : Rr = none := by have h := hst2.out; rw [if_pos hbad] at h; exact h.symm
            have hRV4 : Hid (Value.tuple #[.string ⟨#[]⟩, .int .i64 1] = RV) := Lib.hid (by rw [← hRV3.out, hn]; rfl)
            have hways : x < fr ∨ ¬ x < fr ∧ (N : Int) < x ∨ ¬ x < fr ∧ ¬ (N : Int) < x ∧ kd < 1 ∨ ¬ x < fr ∧ ¬ (N : Int) < x ∧ ¬ kd < 1 ∧ 2 < kd := by
              unfold wbad at hbad
              rw [hN.out] at hbad
              simp only [Bool.or_eq_true, decide_eq_true_eq] at hbad
              omega
            clear hbad hst2 hRV3 hn
            rcases hways with h1 | ⟨h1, h2⟩ | ⟨h1, h2, h3⟩ | ⟨h1, h2, h3, h4⟩
            all_goals
              go_wp2
              go_ret2
              exact ⟨_, rfl, hRV4.out, H.bare⟩
          · have hst3 := hst2.out
            rw [if_neg hbad] at hst3
            obtain ⟨g1, g2, g3, g4⟩ := wbad_no (show wbad T.length fr x kd = false by simpa using hbad)
            rw [hN.out] at g2
            obtain ⟨c, rfl⟩ : ∃ n : Nat, x = n := ⟨x.toNat, by omega⟩
            rw [Int.toNat_natCast] at hst3
            have hfc : fr ≤ c := by omega
            have hcN : c ≤ N := by omega
            obtain ⟨lb, hlb⟩ : ∃ b, Hid (((cs.zip ks).drop (i + 1)).isEmpty = b) := ⟨_, rfl⟩
            have hlb1 : ((i : Int) == (M : Int)) = lb := by
              rw [← hlb.out]
              have hzl : ((cs.zip ks).drop (i + 1)).length = M - i := by rw [List.length_drop, List.length_zip, hLc.out, hLk.out]; omega
              by_cases hq : i = M
              · rw [List.eq_nil_of_length_eq_zero (by omega : ((cs.zip ks).drop (i + 1)).length = 0)]; simp [hq]
              · have : ((cs.zip ks).drop (i + 1)) ≠ [] := fun hh => by rw [hh] at hzl; simp at hzl; omega
                rw [show ((cs.zip ks).drop (i + 1)).isEmpty = false by cases hd : (cs.zip ks).drop (i + 1) with
                  | nil => exact absurd hd this
                  | cons _ _ => rfl]
                simp; omega
            rw [hlb.out] at hst3
            obtain ⟨tv, htv⟩ : ∃ tv, Hid (sliced ta fr c tc 3 = tv) := ⟨_, rfl⟩
            have hrd := (HR.out []).sliced hfc hcN
            rw [htv.out] at hrd
            obtain ⟨Q, hQ⟩ : ∃ Q, Hid ((T.take c).drop fr = Q) := ⟨_, rfl⟩
            have hQl : Q.length = c - fr := by rw [← hQ.out, List.length_drop, List.length_take, hN.out]; omega
            have hQo : ∀ t ∈ Q, TokOk t := fun t ht => HOK.out t (List.mem_of_mem_take (List.mem_of_mem_drop (by rw [hQ.out]; exact ht)))
            have hQs := blockB_size hQo (by omega) kd lb
            rw [hQ.out, ← hQl] at hrd
            have kb := fun w1 (h : Own w w1 [Wtr g Bs]) => block_any kd lb hrd hQo (by omega) h (by omega)
            have KB := Lib.hid kb
            rw [hQ.out] at hst3
            obtain ⟨B2, hB2⟩ : ∃ B2, Hid (Bs ++ blockB Q kd lb = B2) := ⟨_, rfl⟩
            have hB2l : B2.length ≤ (i + 1) * 200000 := by rw [← hB2.out, List.length_append]; omega
            rw [hB2.out] at hst3
            replace hst3 := Lib.hid hst3
            have hmc : (c : Int) ≤ (tc : Int) := by omega
            have hkmI : (fr : Int) ≤ (c : Int) := by omega
            have n1 : ¬ (c : Int) < (fr : Int) := by omega
            have n2 : ¬ (N : Int) < (c : Int) := by omega
            have n3 : ¬ kd < 1 := by omega
            have n4 : ¬ 2 < kd := by omega
            clear kb hrd hQo hQs hbad hst2 hlb
            go_upto_region 13 with (fail)
            clear cc1 cc2
            refine wp_region_calm (fun w1 => Own w w1 [Wtr g Bs]) 13 (by kernel_rfl) (by kernel_rfl) H.drew ?_
            simp only [List.take_succ_cons, List.take_zero, List.drop_succ_cons, List.drop_zero]
            iterate 3
              refine calm_value (v := ?_) (by decide) rfl (fun σ w1 hS => ?_) ?_
              rotate_left
              · first | (go_simp; rfl) | rfl
              simp only [Act.put, List.setIfInBounds_toArray, List.set_cons_zero, List.set_cons_succ]
            refine calm_value (v := tv) (by decide) rfl (fun σ w1 hS => ?_) ?_
            · rw [← htv.out]
              go_simp
            simp only [Act.put, List.setIfInBounds_toArray, List.set_cons_zero, List.set_cons_succ]
            repeat
              first
              | (refine calm_value (v := ?_) (by decide) rfl (fun σ w1 hS => ?_) ?_
                 rotate_left
                 · obtain ⟨c0, c1⟩ := HC2.out _ _ hS
                   first | (go_simp; rfl) | rfl
                 simp only [Act.put, List.setIfInBounds_toArray, List.set_cons_zero, List.set_cons_succ])
              | (refine calm_skip (by decide) rfl ?_
                 simp only [Act.put, List.setIfInBounds_toArray, List.set_cons_zero, List.set_cons_succ])
            refine calm_nil ?_
            intro wd HD
            clear H
            go_wp2_with fail
            refine (KB.out _ HD).mono ?_
            rintro e w4 ⟨_, rfl, H⟩
            rw [hB2.out] at H
            clear HD KB hB2
            go_wp2
            go_roundw
            case rel => exact ⟨i + 1, c, B2, rfl, by go_num, by omega, hcN, hB2l, hst3, H⟩
            case measure => simp [intOf]; omega
        · obtain rfl : i = M + 1 := by omega
          have hiI : ¬ (M : Int) + 1 < (M : Int) + 1 := by omega
          have hnil : (cs.zip ks).drop (M + 1) = [] := List.drop_eq_nil_of_le (by rw [List.length_zip, hLc.out, hLk.out]; omega)
          have hst2 := hst.out
          rw [hnil, wloop] at hst2
          have hRV4 : Hid (Value.tuple #[.string (textOf Bs), .int .i64 0] = RV) := Lib.hid (by rw [← hRV3.out, ← hst2]; rfl)
          clear hst hst2 hRV3 hnil
          go_wp2_with fail
          refine (bytes_any H).mono ?_
          rintro e w5 ⟨rfl, rfl⟩
          go_wp2
          go_ret2
          exact ⟨_, rfl, hRV4.out, H.bare⟩
end Go.Proofs.Ytpbodonmiepilaa
/- Two slices of ints, held against one another. (Picked out of others by tools/pick.py.) -/
namespace Go.Proofs.Ytpbodonmiepilaa
open Go.RowKit

theorem eq_of_getD {xs ys : List Int} (h : xs.length = ys.length) (hh : ∀ j, j < xs.length → xs.getD j 0 = ys.getD j 0) : xs = ys := by
  apply List.ext_getElem h
  intro i h1 h2
  have := hh i h1
  simpa [List.getD, h1, h2] using this
set_option maxHeartbeats 400000 in
theorem same_quiet (v1 v2 : Value) (n1 n2 : Nat) (xs ys : List Int) (w : World) (h1 : Rd w 1 v1 n1 (xs.map (.int .i64))) (h2 : Rd w 1 v2 n2 (ys.map (.int .i64))) :
    Calls Try.prog 19 #[v1, v2] w fun e w' => e = .returned (.bool (decide (xs = ys))) ∧ ∃ n, w' = w.drewN n := by
  have F1 := Lib.hid h1; clear h1
  have F2 := Lib.hid h2; clear h2
  have E1 : Hid (n1 = xs.length) := by have := F1.out.len; simp at this; exact this.symm
  have E2 : Hid (n2 = ys.length) := by have := F2.out.len; simp at this; exact this.symm
  obtain ⟨a1, c1, rfl, hn1, hm1⟩ := F1.out.shape
  obtain ⟨a2, c2, rfl, hn2, hm2⟩ := F2.out.shape
  go_enter Try.func19, Try.ntmps19
  go_wp2
  · have HN : Hid (n1 ≠ n2) := by have h : ((n1 : Int) != (n2 : Int)) = true := by assumption
                                  simp at h; exact Lib.hid (by omega)
    go_ret
    exact ⟨ret_bool (by simp; intro h; exact HN.out (by rw [E1.out, E2.out, h])), 0, rfl⟩
  · have HN : Hid (n1 = n2) := by have h : ((n1 : Int) != (n2 : Int)) = false := by assumption
                                  simp at h; exact Lib.hid (by omega)
    go_loopw [5] (fun i wr => ∃ k : Nat, k ≤ n1 ∧ i = .int .i64 k ∧ (∃ m, wr = w.drewN m) ∧ Hid (∀ j, j < k → xs.getD j 0 = ys.getD j 0)) (fun i _ => n1 - (intOf i).toNat)
    case atStart => exact ⟨0, Nat.zero_le _, rfl, ⟨0, rfl⟩, Lib.hid (by intro j hj; omega)⟩
    case round =>
      obtain ⟨k, hk, rfl, ⟨m, rfl⟩, hall⟩ := hrel
      by_cases hlt : k < n1
      · have hlt2 : k < n2 := by have := HN.out; omega
        obtain ⟨b1, o1, c1, e1, _, _, g1⟩ := F1.out.at (by have := F1.out.len; omega)
        obtain ⟨b2, o2, c2, e2, _, _, g2⟩ := F2.out.at (by have := F2.out.len; omega)
        cases e1; cases e2
        replace g1 := g1 k _ (ints_get _ _ (by have := E1.out; omega))
        replace g2 := g2 k _ (ints_get _ _ (by have := E2.out; omega))
        obtain ⟨x, hx⟩ : ∃ x, Hid (xs.getD k 0 = x) := ⟨_, rfl⟩
        obtain ⟨y, hy⟩ : ∃ x, Hid (ys.getD k 0 = x) := ⟨_, rfl⟩
        rw [hx.out] at g1; rw [hy.out] at g2
        go_wp2
        go_quiet (fail)
        go_wp2
        · have h : (x != y) = true := by assumption
          go_ret
          exact ⟨ret_bool (by simp at h ⊢; rintro rfl; exact h (by rw [← hx.out, hy.out])), m + nq, by first | rfl | exact drewN_add _ _ _⟩
        · have h : (x != y) = false := by assumption
          go_round
          case rel => exact ⟨k + 1, by omega, by go_num, ⟨_, rfl⟩, Lib.hid (fun j hj => by
            by_cases e : j = k
            · subst e; rw [hx.out, hy.out]; simpa using h
            · exact hall.out j (by omega))⟩
          case measure => simp [intOf]; omega
      · go_wp2
        go_ret
        refine ⟨ret_bool ?_, _, rfl⟩
        simp
        exact eq_of_getD (by rw [← E1.out, ← E2.out, HN.out]) (fun j hj => hall.out j (by have := E1.out; omega))
end Go.Proofs.Ytpbodonmiepilaa
/- split: the walks of Cuts, and of the laws' examples. -/
namespace Go.Proofs.Ytpbodonmiepilaa
open Go.RowKit

theorem same47_any (v1 v2 : Value) (n1 n2 : Nat) (xs ys : List Int) (w : World) (h1 : Rd w 1 v1 n1 (xs.map (.int .i64))) (h2 : Rd w 1 v2 n2 (ys.map (.int .i64))) :
    Calls Try.prog 19 #[v1, v2] w fun e w' => e = .returned (.bool (decide (xs = ys))) ∧ Own w w' [] :=
  (same_quiet v1 v2 n1 n2 xs ys w h1 h2).mono fun _ _ ⟨he, n, hw⟩ => ⟨he, by rw [hw]; exact (Own.start w).drewN n⟩

/-- the size of a segment -/
def cutSize (n : Int) : Int := max (n.tdiv 12 + if n.tmod 12 > 0 then 1 else 0) 64
def cutRow (s : Int) (k : Nat) : List Int := (List.range k).map fun (j : Nat) => s * ((j : Int) + 1)
theorem cutRow_succ (s : Int) (k : Nat) : cutRow s (k + 1) = cutRow s k ++ [s * ((k : Int) + 1)] := by simp [cutRow, List.range_succ]
theorem cutRow_length (s : Int) (k : Nat) : (cutRow s k).length = k := by simp [cutRow]

theorem tdiv12 (n : Int) : 12 * n.tdiv 12 + n.tmod 12 = n ∧ (0 ≤ n → 0 ≤ n.tmod 12 ∧ n.tmod 12 < 12) ∧ (n < 0 → -12 < n.tmod 12 ∧ n.tmod 12 ≤ 0) := by
  refine ⟨Int.mul_tdiv_add_tmod n 12, fun h => ?_, fun h => ?_⟩
  · rw [Int.tmod_eq_emod_of_nonneg h]; omega
  · have : n.tmod 12 = -((-n).tmod 12) := by rw [Int.neg_tmod]; omega
    rw [this, Int.tmod_eq_emod_of_nonneg (by omega)]; omega
theorem cutSize_of {n q : Int} (h : q = n.tdiv 12 + if n.tmod 12 > 0 then 1 else 0) : cutSize n = max q 64 := by rw [h]; rfl
theorem cutSize_bd (n : Int) (h1 : -9223372036854775808 ≤ n) (h2 : n ≤ 9223372036854775807) : 64 ≤ cutSize n ∧ cutSize n ≤ 768614336404564651 := by
  have := tdiv12 n
  unfold cutSize
  split <;> omega

def CutsR (n : Int) (w : World) (v : Value) (w' : World) : Prop := ∃ k : Nat, k ≤ 11 ∧ (k = 0 ∨ cutSize n * k < n) ∧ (k = 11 ∨ n ≤ cutSize n * (k + 1)) ∧
  Own w w' [slc 3 1 v (k + 1) ((cutRow (cutSize n) k ++ [max n 0]).map (.int .i64))]

set_option maxHeartbeats 400000 in
theorem cuts_any (n : Int) (hn : -9223372036854775808 ≤ n ∧ n ≤ 9223372036854775807) (w : World) :
    Calls Try.prog 7 #[.int .i64 n] w (Ret (CutsR n w)) := by
  obtain ⟨hn1, hn2⟩ := hn
  have ht := Lib.hid (tdiv12 n)
  have hbd := cutSize_bd n hn1 hn2
  obtain ⟨s, hs⟩ : ∃ s, Hid (cutSize n = s) := ⟨_, rfl⟩
  rw [hs.out] at hbd
  obtain ⟨hb1, hb2⟩ := hbd
  go_enter Try.func7, Try.ntmps7
  go_upto_if 10 with (fail)
  go_cut [3] (fun s3 wx => wx = w ∧ ∃ q : Int, s3 = .int .i64 q ∧ -768614336404564651 ≤ q ∧ q ≤ 768614336404564651 ∧ Hid (s = max q 64))
  case first =>
    have hb : -768614336404564650 ≤ n.tdiv 12 ∧ n.tdiv 12 ≤ 768614336404564650 := by have := ht.out; omega
    go_wp2
    all_goals go_meet
    · exact ⟨rfl, _, rfl, by omega, by omega, Lib.hid (by rw [← hs.out]; exact cutSize_of (by rw [if_pos (by assumption)]))⟩
    · exact ⟨rfl, _, rfl, by omega, by omega, Lib.hid (by rw [← hs.out]; exact cutSize_of (by rw [if_neg (by omega)]; simp))⟩
  case rest =>
    obtain ⟨rfl, q, rfl, hq1, hq2, hq⟩ := hcut
    go_upto_region 4 with (fail)
    go_cut [3] (fun s3 wx => wx = wc ∧ s3 = .int .i64 s)
    case first =>
      go_wp2
      all_goals go_meet
      all_goals exact ⟨rfl, val_int (by have := hq.out; omega)⟩
    case rest =>
      obtain ⟨rfl, rfl⟩ := hcut
      go_wp2
      go_loopw [4, 5] (fun l at_ wr => ∃ k : Nat, ∃ t : Int, k ≤ 11 ∧ at_ = .int .i64 t ∧ Hid (k < 11 → t = s * (k + 1)) ∧ Hid (k = 0 ∨ s * k < n) ∧ Own wc wr [slc 3 1 l k ((cutRow s k).map (.int .i64))])
        (fun l _ _ => 11 - sliceLen l)
      case atStart => exact ⟨0, s, by omega, rfl, Lib.hid (by intro _; simp), Lib.hid (.inl rfl), (Own.start wc).nil _ _⟩
      case round =>
        obtain ⟨k, t, hk, rfl, ht, hlow, hown⟩ := hrel
        obtain ⟨a, c, rfl, _, _⟩ := hown.rd.shape
        go_wp2_with (first
          | (at_builtin; refine wpList_append_one rfl _ _ rfl Try.underlying22 intInfo rfl (by decide) rfl hown rfl rfl rfl (by simp [Value.oneCell']) (by omega) (by omega) ?_; intro v' w' hown'))
        · obtain ⟨_, _, rfl, _, _⟩ := hown'.rd.shape
          go_roundw
          case rel => exact ⟨k + 1, _, by omega, rfl, Lib.hid (fun h => by
              have e := ht.out (by omega)
              have : s * (k + 1) + s = s * ((k + 1 : Nat) + 1) := by rw [Int.natCast_add, Int.mul_add s ((k : Int) + (1 : Nat)) 1]; simp
              have hmul : s * ((k + 1 : Nat) + 1) ≤ 768614336404564651 * 11 := by
                refine Int.le_trans (Int.mul_le_mul_of_nonneg_right hb2 (by omega)) ?_
                omega
              have hmul0 : 0 ≤ s * ((k + 1 : Nat) + 1) := Int.mul_nonneg (by omega) (by omega)
              rw [← this, ← e] at hmul hmul0 ⊢
              exact IntWalk.wrap64_in _ ⟨by omega, by omega⟩), Lib.hid (.inr (by
              have h1 : t < n := by assumption
              rw [ht.out (by omega)] at h1; simpa using h1)), by rw [cutRow_succ, List.map_append]; simpa [ht.out (show k < 11 by omega)] using hown'⟩
          case measure => simp [sliceLen]; omega
        all_goals
          go_ret
          refine ⟨v', rfl, k, hk, ?_⟩
          rw [hs.out]
          refine ⟨hlow.out, ?_, ?_⟩
          · first
              | exact .inl (by omega)
              | (have h1 : n ≤ t := by assumption
                 by_cases h : k < 11
                 · right; rw [ht.out h] at h1; exact h1
                 · left; omega)
          · rw [List.map_append]
            have e : (max n 0 : Int) = if n < 0 then 0 else n := by omega
            rw [e]; simpa using hown'

theorem cuts_1200 (w : World) : Calls Try.prog 7 #[.int .i64 1200] w (Ret fun v w' => Own w w' [slc 3 1 v 12 ([100, 200, 300, 400, 500, 600, 700, 800, 900, 1000, 1100, 1200].map (.int .i64))]) := by
  refine (cuts_any 1200 (by omega) w).mono ?_
  rintro e w' ⟨v, rfl, k, hk, h1, h2, hown⟩
  have hs : cutSize 1200 = 100 := by decide
  rw [hs] at h1 h2 hown
  obtain rfl : k = 11 := by omega
  exact ⟨v, rfl, hown⟩
theorem cuts_200 (w : World) : Calls Try.prog 7 #[.int .i64 200] w (Ret fun v w' => Own w w' [slc 3 1 v 4 ([64, 128, 192, 200].map (.int .i64))]) := by
  refine (cuts_any 200 (by omega) w).mono ?_
  rintro e w' ⟨v, rfl, k, hk, h1, h2, hown⟩
  have hs : cutSize 200 = 64 := by decide
  rw [hs] at h1 h2 hown
  obtain rfl : k = 3 := by omega
  exact ⟨v, rfl, hown⟩

set_option maxHeartbeats 400000 in
theorem awake47_any (w : World) : Calls Try.prog 8 #[] w (Ret fun v w' => v = .bool true ∧ Own w w' []) := by
  go_enter Try.func8, Try.ntmps8
  go_wp2_with fail
  refine (cuts_1200 w).mono ?_
  rintro e w1 ⟨v1, rfl, h1⟩
  go_wp2_with fail
  refine (cuts_200 w1).mono ?_
  rintro e w2 ⟨v2, rfl, h2⟩
  have H := h1.join h2
  have H3 := H.made ([64, 128, 192, 200].map (.int .i64)) 3 1 4 rfl (by decide)
  go_wp2_with fail
  refine (same47_any _ _ 4 4 [64, 128, 192, 200] [64, 128, 192, 200] _ ?_ ?_).mono ?_
  · exact (H3.front 1 rfl).rd
  · exact H3.rd
  rintro e w3 ⟨rfl, h3⟩
  have H4 := (H3.join h3).front 2 rfl
  obtain ⟨g, c, rfl, _, _, _, _, hc, _⟩ := H4.at (by decide)
  have c0 := hc 0 _ rfl
  have c11 := hc 11 _ rfl
  clear hc
  go_wp2
  go_ret
  exact ⟨.bool true, rfl, rfl, H4.drop.drop.drop⟩

end Go.Proofs.Ytpbodonmiepilaa
/- lz: the walk of the document's Expand. -/
namespace Go.Proofs.Ytpbodonmiepilaa
open Go.RowKit

set_option maxRecDepth 100000 in
set_option maxHeartbeats 3200000 in
theorem refexpand_any {w : World} {v : Value} (l : List Tok) (most : Int) (hR : Rd w 3 v l.length (rows tcell l)) (hl : l.length ≤ 3000) :
    Calls Try.prog 15 #[v, .int .i64 most] w (Ret fun r w' => r = resVal (exp most l []) ∧ Own w w' []) := by
  obtain ⟨R, hRR⟩ : ∃ R, Hid (exp most l [] = R) := ⟨_, rfl⟩
  rw [hRR.out]
  obtain ⟨N, hN⟩ : ∃ N, Hid (l.length = N) := ⟨_, rfl⟩
  rw [hN.out] at hR hl
  have HR := Lib.hid hR
  obtain ⟨a, c, rfl, hc1, hc2⟩ := hR.shape
  clear hR
  have H := (Own.start w).nil 5 1
  go_enter Try.func15, Try.ntmps15
  go_wp2_with fail
  go_loopw [6, 7] (fun s6 s11 wr => ∃ (k : Nat) (out : List Int), s11 = .int .i64 k ∧ k ≤ N ∧ Hid (exp most (l.drop k) out = R) ∧ out.length ≤ 258 * k ∧ Own w wr [slc 5 1 s6 out.length (bcells out)]) (fun _ s11 _ => N - (intOf s11).toNat)
  case atStart => exact ⟨0, [], by simp, by omega, hRR, by simp, H⟩
  case round =>
    clear H
    obtain ⟨k, out, rfl, hk, hex, hol, H⟩ := hrel
    by_cases hkN : k < N
    · have hkI : (k : Int) < (N : Int) := by omega
      obtain ⟨t, ht⟩ : ∃ t, l[k]? = some t := ⟨l[k]'(by rw [hN.out]; exact hkN), List.getElem?_eq_getElem _⟩
      have hdrop : l.drop k = t :: l.drop (k + 1) := by
        obtain ⟨hk', rfl⟩ := List.getElem?_eq_some_iff.1 ht
        exact List.drop_eq_getElem_cons hk'
      have hex' := hex.out
      rw [hdrop, exp] at hex'
      clear hex hdrop
      obtain ⟨b, o, c', he, hc1', hc2', hcell⟩ := HR.out.at (by rw [HR.out.len]; omega)
      cases he
      have HT := Lib.hid ht
      clear ht hcell
      obtain ⟨c1, c2, c3⟩ := tok_cells (HR.out.old H) HT.out
      obtain ⟨x, y, z⟩ := t
      simp only at c1 c2 c3
      obtain ⟨n, hn⟩ : ∃ n, Hid (out.length = n) := ⟨_, rfl⟩
      rw [hn.out] at H hol hex'
      obtain ⟨a', d', rfl, hd1, hd2⟩ := H.rd.shape
      go_upto_region 6 with (refine wpList_store_agg rfl _ _ rfl rfl (H.alloc _) rfl (by kernel_rfl) (by simp) (by simp; exact ⟨rfl, rfl, rfl⟩) rfl ?_; clear H; intro w5 H)
      generalize wr.heap.size = cb at *
      have H : Own w w5 (blk cb (.cells #[.int .i64 x, .int .i64 y, .int .i64 z] 46) :: [slc 5 1 (.slice a' n d') n (bcells out)]) := H
      clear c1 c2 c3
      have c0 := H.cells
      go_wp2_with fail
      refine (may_any ⟨x, y, z⟩ n w5).mono ?_
      rintro e w6 ⟨_, rfl, rfl, H6⟩
      replace H := H.join H6
      have H : Own w w6 (blk cb (.cells #[.int .i64 x, .int .i64 y, .int .i64 z] 46) :: [slc 5 1 (.slice a' n d') n (bcells out)]) := H
      clear H6 c0
      have c0 := H.cells
      obtain ⟨mb, hmb⟩ : ∃ mb, Hid (may ⟨x, y, z⟩ n = mb) := ⟨_, rfl⟩
      rw [hmb.out] at hex' ⊢
      cases mb with
      | false =>
        rw [if_pos rfl] at hex'
        have hfin := Lib.hid hex'
        clear hex'
        go_wp2
        go_ret2
        exact ⟨_, rfl, by rw [← hfin.out]; rfl, H.bare⟩
      | true =>
        rw [if_neg (by simp)] at hex'
        obtain ⟨r, hr⟩ : ∃ r, Hid (IntKind.i64.wrap (most - (n : Int)) = r) := ⟨_, rfl⟩
        have hrw := hr.out
        rw [hrw] at hex'
        obtain ⟨m, rfl⟩ : ∃ m : Nat, x = m := by
          by_cases hx0 : x = 0
          · exact ⟨0, by omega⟩
          · have := may_back hmb.out hx0; exact ⟨x.toNat, by omega⟩
        obtain ⟨d, rfl⟩ : ∃ d : Nat, y = d := by
          by_cases hx0 : (m : Int) = 0
          · have := may_lit hmb.out hx0; exact ⟨0, by omega⟩
          · have := may_back hmb.out hx0; exact ⟨y.toNat, by omega⟩
        have hM : Hid ((m = 0 ∧ d = 0 ∧ 0 ≤ z ∧ z < 256) ∨ (z = 0 ∧ 3 ≤ m ∧ m ≤ 258 ∧ 1 ≤ d ∧ d ≤ n)) := Lib.hid (by
          by_cases hx0 : (m : Int) = 0
          · have := may_lit hmb.out hx0; left; omega
          · have := may_back hmb.out hx0; right; omega)
        have herr : R = .err 12 → ∀ wz, Own w wz [blk cb (.cells #[.int .i64 m, .int .i64 d, .int .i64 z] 46), slc 5 1 (.slice a' n d') n (bcells out)] → ∃ v, Ending.returned (.tuple #[.string ⟨#[]⟩, .int .i64 12]) = .returned v ∧ v = resVal R ∧ Own w wz [] := fun h wz hz => ⟨_, rfl, by rw [h]; rfl, hz.bare⟩
        have HE := Lib.hid herr
        clear herr
        by_cases hm0 : m = 0
        case pos =>
          have hmz : ((m : Int) == 0) = true := by simp [hm0]
          have hm1 : (m : Int) < 1 := by omega
          rw [show max (m : Int) 1 = 1 by omega, if_pos (show (m : Int) = 0 by omega)] at hex'
          by_cases hlim : r < 1
          case' pos =>
            rw [if_pos hlim] at hex'
            have hfin := Lib.hid hex'.symm
            clear hex' hm0
            go_wp2
            go_ret2
            exact HE.out hfin.out _ H
          rw [if_neg hlim] at hex'
          have hwz : IntKind.u8.wrap z = z := by rw [IntKind.wrap_u8]; have := hM.out; omega
          have hE : Hid (exp most (l.drop (k + 1)) (out ++ [z]) = R) := Lib.hid hex'
          have hlen : Hid ((out ++ [z]).length = n + 1) := Lib.hid (by rw [List.length_append, hn.out]; rfl)
          clear hex' hm0 hM hr HE
          go_wp2_with (at_builtin; refine wpList_append_one rfl _ _ rfl Try.underlying54 u8Info rfl (by decide) rfl H.swap (news := [.int .u8 z]) rfl rfl rfl (by simp [Value.oneCell']) (by omega) (by omega) ?_; clear H c0; intro v' w7 H; replace H := H.swap; have c0 := H.cells)
          rw [bcells_snoc] at H
          go_roundw
          case rel =>
            refine ⟨k + 1, out ++ [z], by go_num, by omega, hE, by rw [hlen.out]; omega, ?_⟩
            rw [hlen.out]
            exact H.drop
          case measure => simp [intOf]; omega
        case' neg =>
          have hmz : ((m : Int) == 0) = false := by simp; omega
          have hm1 : ¬ (m : Int) < 1 := by omega
          rw [show max (m : Int) 1 = m by omega, if_neg (show ¬ (m : Int) = 0 by omega)] at hex'
          by_cases hlim : r < m
          case' pos =>
            rw [if_pos hlim] at hex'
            have hfin := Lib.hid hex'.symm
            clear hex' hm0
            go_wp2
            go_ret2
            exact HE.out hfin.out _ H
          rw [if_neg hlim] at hex'
          have hE : Hid (exp most (l.drop (k + 1)) (copyN d out m) = R) := Lib.hid (by simpa using hex')
          have hdn : Hid (m = 0 ∨ (1 ≤ d ∧ d ≤ n)) := Lib.hid (by have := hM.out; omega)
          have hn1 : n + m ≤ 258 * (k + 1) := by have := hM.out; omega
          have hlen : Hid (out.length = n) := hn
          clear hex' hm0 hM hr HE
          go_upto_region 15 with (fail)
          clear hlim
          generalize (Value.slice a' n d') = v' at *
          generalize out = out1 at *
          generalize n = n1 at *
        all_goals
          clear hm1 hmz
          go_wp2_with fail
          go_loopw [6, 10] (fun s6 s39 wr => ∃ j : Nat, s39 = .int .i64 j ∧ j ≤ m ∧ Own w wr [blk cb (.cells #[.int .i64 m, .int .i64 d, .int .i64 z] 46), slc 5 1 s6 (n1 + j) (bcells (copyN d out1 j))]) (fun _ s39 _ => m - (intOf s39).toNat)
          case atStart => exact ⟨0, by simp, by omega, H⟩
          case round =>
            clear H c0
            obtain ⟨j, rfl, hj, H⟩ := hrel
            by_cases hjm : j < m
            · have hjI : (j : Int) < (m : Int) := by omega
              have hd1 : 1 ≤ d := by have := hdn.out; omega
              have hd2 : d ≤ n1 := by have := hdn.out; omega
              have hcl : (copyN d out1 j).length = n1 + j := by rw [copyN_length, hlen.out]
              obtain ⟨L, hL⟩ : ∃ L, Hid (n1 + j = L) := ⟨_, rfl⟩
              rw [hL.out] at H hcl
              have hLb : L ≤ 800000 := by have := hL.out; omega
              obtain ⟨q, hq⟩ : ∃ q, Hid (L - d = q) := ⟨_, rfl⟩
              have hdL : d ≤ L := by have := hL.out; omega
              have hqI : (L : Int) - (d : Int) = (q : Int) := by have := hq.out; omega
              have hqL : q < L := by have := hq.out; omega
              have hqLI : (q : Int) < (L : Int) := by omega
              obtain ⟨x, hx⟩ : ∃ x, (copyN d out1 j)[q]? = some x := ⟨_, List.getElem?_eq_getElem (by omega)⟩
              have hnx : Hid (copyN d out1 (j + 1) = copyN d out1 j ++ [x]) := Lib.hid (by
                rw [copyN, hcl, hq.out, List.getD_eq_getElem?_getD, hx]; rfl)
              have HX := Lib.hid (bcells_get hx)
              clear hx
              obtain ⟨OJ, hOJ⟩ : ∃ OJ, Hid (copyN d out1 j = OJ) := ⟨_, rfl⟩
              rw [hOJ.out] at H HX hnx
              clear hcl
              obtain ⟨gb, cc, rfl, hg1, hg2, _⟩ := H.swap.at (by rw [bcells_length, ← hOJ.out, copyN_length, hlen.out]; have := hL.out; omega)
              have c0 := H.cells
              have c1 := H.swap.rd.cell HX.out
              rw [Nat.zero_add] at c1
              go_wp2_with (at_builtin; refine wpList_append_one rfl _ _ rfl Try.underlying54 u8Info rfl (by decide) rfl H.swap (news := [.int .u8 x]) rfl rfl rfl (by simp [Value.oneCell']) (by omega) (by omega) ?_; clear H c0 c1; intro v' w7 H; replace H := H.swap)
              go_roundw
              case rel =>
                refine ⟨j + 1, by go_num, by omega, ?_⟩
                rw [hnx.out, ← bcells_snoc, ← Nat.add_assoc, hL.out]
                exact H
              case measure => simp [intOf]; omega
            · have hjI : ¬ (j : Int) < (m : Int) := by omega
              have hjm2 : j = m := by omega
              have hcl : (copyN d out1 m).length = n1 + m := by rw [copyN_length, hlen.out]
              rw [hjm2] at H
              have c0 := H.cells
              go_wp2_with fail
              go_roundw
              case rel =>
                refine ⟨k + 1, copyN d out1 m, by go_num, by omega, hE, by omega, ?_⟩
                rw [hcl]
                exact H.drop
              case measure => simp [intOf]; omega
    · have hkI : ¬ (k : Int) < (N : Int) := by omega
      have hfin : Hid (R = .ok out) := Lib.hid (by rw [← hex.out, List.drop_eq_nil_of_le (by rw [hN.out]; omega), exp])
      clear hex
      obtain ⟨a', d', rfl, hd1, hd2⟩ := H.rd.shape
      have hst := run_string_sep (P := Try.prog) 54 9 Try.underlying54 Try.underlying5 Try.underlying9 (ns := out) H.rd
      go_wp2
      go_ret2
      exact ⟨_, rfl, by rw [hfin.out]; rfl, H.bare⟩
end Go.Proofs.Ytpbodonmiepilaa
/- Bits: the document's Left, Take. -/
namespace Go.Proofs.Ytpbodonmiepilaa
open Go.RowKit

/-- The document's reader of a text, n bits taken. -/
def RRdr (g : Nat) (s : ByteArray) (n : Nat) : Piece := blk g (.cells #[.string s, .int .i64 n] 69)
set_option maxHeartbeats 400000 in
theorem rleft_any {w0 w : World} {ps : List Piece} {g : Nat} {s : ByteArray} {n : Nat} (H : Own w0 w (RRdr g s n :: ps)) (hs : s.size ≤ 281474976710656) (hn : n ≤ 2251799813685248) :
    Calls Try.prog 88 #[.pointer (some ⟨g, 0, none⟩)] w fun e w' => e = .returned (.int .i64 (8 * s.size - n)) ∧ Own w0 w' (RRdr g s n :: ps) := by
  unfold RRdr at H ⊢
  obtain ⟨z, hz⟩ : ∃ z, Hid (s.size = z) := ⟨_, rfl⟩
  have hz2 := hz.out
  rw [hz2] at hs ⊢
  have hw : IntKind.i64.wrap (8 * (z : Int)) = 8 * z := IntWalk.i64_in _ ⟨by omega, by omega⟩
  have hw2 : IntKind.i64.wrap (8 * (z : Int) - n) = 8 * z - n := IntWalk.i64_in _ ⟨by omega, by omega⟩
  go_enter Try.func88, Try.ntmps88
  go_upto_region 1 with (fail)
  refine wp_region_calm (fun w1 => Own w0 w1 (blk g (.cells #[.string s, .int .i64 n] 69) :: ps)) 11 (by kernel_rfl) (by kernel_rfl) H.drew ?_
  simp only [List.take_succ_cons, List.take_zero, List.drop_succ_cons, List.drop_zero]
  repeat
    refine calm_value (v := ?_) (by decide) rfl (fun σ w1 hS => ?_) ?_; rotate_left
    · have c0 := hS.cells
      first | (go_simp; rfl) | rfl
    simp only [Act.put, List.setIfInBounds_toArray, List.set_cons_zero, List.set_cons_succ]
  refine calm_nil ?_
  intro wd HD
  go_wp2
  go_ret
  exact ⟨rfl, HD⟩
set_option maxHeartbeats 800000 in
theorem rtake_yes {w0 w : World} {ps : List Piece} {g : Nat} {s : ByteArray} {n : Nat} (m : Nat) (H : Own w0 w (RRdr g s n :: ps)) (hs : s.size ≤ 281474976710656) (hm : m ≤ 62) (hn : n + m ≤ 8 * s.size) :
    Calls Try.prog 62 #[.pointer (some ⟨g, 0, none⟩), .int .i64 m] w (Ret fun v w' => v = .tuple #[.int .i64 (valOf (((textBits s).drop n).take m)), .bool true] ∧ Own w0 w' (RRdr g s (n + m) :: ps)) := by
  obtain ⟨z, hz⟩ : ∃ z, Hid (s.size = z) := ⟨_, rfl⟩
  have hz2 := hz.out
  rw [hz2] at hs hn
  clear hz2
  obtain ⟨bs, hbs⟩ : ∃ bs, Hid ((textBits s).drop n = bs) := ⟨_, rfl⟩
  rw [hbs.out]
  have hbl : Hid (bs.length = 8 * z - n) := Lib.hid (by rw [← hbs.out, List.length_drop, textBits_length, hz.out])
  go_enter Try.func62, Try.ntmps62
  go_wp2_with fail
  refine (rleft_any H (by rw [hz.out]; exact hs) (by omega)).mono ?_
  rintro e w1 ⟨rfl, H1⟩
  rw [hz.out]
  clear H
  have hle : (m : Int) ≤ 8 * (z : Int) - n := by omega
  go_wp2_with fail
  go_loopw [6, 7] (fun x i wx => ∃ k : Nat, ∃ u d : Int, k ≤ m ∧ i = .int .i64 d ∧ Hid (d = (m : Int) - 1 - k) ∧ x = .int .i64 u ∧ Hid (u = valOf ((bs.drop (m - k)).take k)) ∧ Own w0 wx (RRdr g s n :: ps)) (fun _ i _ => (intOf i + 1).toNat)
  case atStart => exact ⟨0, 0, _, Nat.zero_le _, rfl, Lib.hid (by omega), rfl, Lib.hid rfl, H1⟩
  case round =>
    clear H1
    obtain ⟨k, u, d, hk, rfl, hd, rfl, hu, H⟩ := hrel
    unfold RRdr at H
    have c0 := H.cells
    by_cases hlt : k < m
    · obtain ⟨j, hj⟩ : ∃ j, Hid (m - 1 - k = j) := ⟨_, rfl⟩
      obtain rfl : d = (j : Int) := by have := hd.out; have := hj.out; omega
      obtain ⟨p, hp⟩ : ∃ p, Hid (n + j = p) := ⟨_, rfl⟩
      obtain ⟨r, hr⟩ : ∃ r, Hid (r = p % 8) := ⟨_, Lib.hid rfl⟩
      obtain ⟨q, hq⟩ : ∃ q, Hid (q = p / 8) := ⟨_, Lib.hid rfl⟩
      have hp8 : p < 8 * z := by have := hp.out; have := hj.out; omega
      have hj62 : j < 62 := by have := hj.out; omega
      have hpi : (n : Int) + (j : Int) = (p : Int) := by have := hp.out; omega
      have hrt : (p : Int).tmod 8 = (r : Int) := by have := hr.out; rw [Int.tmod_eq_emod_of_nonneg (by omega)]; omega
      have hqt : (p : Int).tdiv 8 = (q : Int) := by have := hq.out; rw [Int.tdiv_eq_ediv_of_nonneg (by omega)]; omega
      have hrt' : (p : Int) % 8 = (r : Int) := by have := hr.out; omega
      have hqt' : (p : Int) / 8 = (q : Int) := by have := hq.out; omega
      have hr8 : r < 8 := by have := hr.out; omega
      have hqs : q < s.size := by have := hz.out; have := hq.out; omega
      have hjl : j < bs.length := by have := hbl.out; have := hj.out; omega
      obtain ⟨b, hb⟩ : ∃ b, Hid (bs[j]? = some b) := ⟨bs[j], Lib.hid (List.getElem?_eq_getElem _)⟩
      have hbb : Hid (bitOf ((s[q].toNat : Nat) : Int) r = b) := Lib.hid (by
        have h1 := textBits_get s hqs hr8
        have h2 := hb.out
        rw [← hbs.out, List.getElem?_drop] at h2
        have e : n + j = 8 * q + r := by have := hp.out; have := hq.out; have := hr.out; omega
        rw [e, h1] at h2
        exact Option.some.inj h2)
      have hx8 := s[q].toNat_lt
      have hand : bits .and .i64 ((s[q].toNat : Int) / 2 ^ r) 1 = bi b := by rw [i64_and1, ← hbb.out, bi_bitOf]
      have hbd := bi_bd b
      obtain ⟨c, hc⟩ : ∃ c, Hid (bi b = c) := ⟨_, rfl⟩
      rw [hc.out] at hand hbd
      obtain ⟨hc0, hc1⟩ := hbd
      have hub := valOf_bd ((bs.drop (m - k)).take k)
      rw [← hu.out, List.length_take_of_le (by have := hbl.out; rw [List.length_drop]; omega)] at hub
      obtain ⟨hu0, hu1⟩ := hub
      have hu2 : u ≤ 2305843009213693951 := by
        have h1 : (2 : Int) ^ k ≤ 2 ^ 61 := pow2_le (by omega)
        have h61 : (2 : Int) ^ 61 = 2305843009213693952 := by decide
        omega
      clear hu1
      go_wp2
      go_round
      case rel => exact ⟨k + 1, 2 * u + c, _, by omega, rfl, Lib.hid (by have := hd.out; omega), rfl, Lib.hid (by
          have e1 : m - (k + 1) = j := by have := hj.out; omega
          have e2 : m - k = j + 1 := by have := hj.out; omega
          have e3 : bs[j] = b := by have := hb.out; rw [List.getElem?_eq_getElem hjl] at this; exact Option.some.inj this
          rw [e1, List.drop_eq_getElem_cons hjl, List.take_succ_cons, e3, valOf, hu.out, hc.out, e2]
          omega), H⟩
      case measure => simp [intOf]
    · have hd0 : d < 0 := by have := hd.out; omega
      obtain rfl : k = m := by omega
      have hnk : Hid ((n : Int) + k = ((n + k : Nat) : Int)) := Lib.hid (by omega)
      go_wp2_with (refine wpList_store_int rfl _ _ rfl rfl H rfl (by kernel_rfl) (by simp) ?_; clear H c0; intro w3 H)
      go_ret2
      refine ⟨.tuple #[.int .i64 u, .bool true], rfl, by rw [hu.out]; simp, ?_⟩
      rw [hnk.out] at H
      simpa [RRdr] using H
set_option maxHeartbeats 800000 in
theorem rtake_no {w0 w : World} {ps : List Piece} {g : Nat} {s : ByteArray} {n : Nat} (m : Int) (hm1 : -9223372036854775808 ≤ m) (hm2 : m ≤ 9223372036854775807) (H : Own w0 w (RRdr g s n :: ps)) (hs : s.size ≤ 281474976710656) (hn : n ≤ 2251799813685248) (hno : m < 0 ∨ 62 < m ∨ 8 * (s.size : Int) - n < m) :
    Calls Try.prog 62 #[.pointer (some ⟨g, 0, none⟩), .int .i64 m] w (Ret fun v w' => v = .tuple #[.int .i64 0, .bool false] ∧ Own w0 w' (RRdr g s n :: ps)) := by
  obtain ⟨z, hz⟩ : ∃ z, Hid (s.size = z) := ⟨_, rfl⟩
  rw [hz.out] at hno
  go_enter Try.func62, Try.ntmps62
  by_cases h1 : m < 0
  · go_wp2
    go_ret2
    exact ⟨_, rfl, rfl, H⟩
  by_cases h2 : 62 < m
  · go_wp2
    go_ret2
    exact ⟨_, rfl, rfl, H⟩
  have h3 : 8 * (z : Int) - n < m := by omega
  clear hno
  go_wp2_with fail
  refine (rleft_any H hs hn).mono ?_
  rintro e w1 ⟨rfl, H1⟩
  rw [hz.out]
  go_wp2
  go_ret2
  exact ⟨_, rfl, rfl, H1⟩
theorem rtake_any {w0 w : World} {ps : List Piece} {g : Nat} {s : ByteArray} {n : Nat} (m : Int) (hm : -9223372036854775808 ≤ m ∧ m ≤ 9223372036854775807) (H : Own w0 w (RRdr g s n :: ps)) (hs : s.size ≤ 1000000) (hn : n ≤ 8 * s.size) :
    Calls Try.prog 62 #[.pointer (some ⟨g, 0, none⟩), .int .i64 m] w (Ret fun v w' => v = .tuple #[.int .i64 (tkV s n m), .bool (decide (tkOk s n m))] ∧ Own w0 w' (RRdr g s (tkN s n m) :: ps)) := by
  by_cases h : tkOk s n m
  · have h' := h
    unfold tkOk at h'
    obtain ⟨k, rfl⟩ : ∃ k : Nat, m = k := ⟨m.toNat, by omega⟩
    have := rtake_yes k H (by omega) (by omega) (by omega)
    simpa [tkV, tkN, h] using this
  · have h' := h
    unfold tkOk at h'
    have := rtake_no m hm.1 hm.2 H (by omega) (by omega) (by omega)
    simpa [tkV, tkN, h] using this
end Go.Proofs.Ytpbodonmiepilaa
/- The document's Reader: Align, Text. -/
namespace Go.Proofs.Ytpbodonmiepilaa
open Go.RowKit

set_option maxHeartbeats 400000 in
theorem rralign_any {w0 w : World} {ps : List Piece} {g : Nat} {s : ByteArray} {n : Nat} (H : Own w0 w (RRdr g s n :: ps)) (hn : n ≤ 2251799813685248) :
    Calls Try.prog 64 #[.pointer (some ⟨g, 0, none⟩)] w (Ret fun _ w' => Own w0 w' (RRdr g s (8 * nbytes n) :: ps)) := by
  unfold RRdr at H
  obtain ⟨z, hz, hz1, hz2⟩ : ∃ z, Hid (8 * nbytes n = z) ∧ n ≤ z ∧ z ≤ n + 7 := ⟨_, Lib.hid rfl, by unfold nbytes; omega, by unfold nbytes; omega⟩
  have hz8 : Hid (z % 8 = 0) := Lib.hid (by have := hz.out; omega)
  go_enter Try.func64, Try.ntmps64
  go_wp2_with fail
  go_loopw [2] (fun _ wx => ∃ k : Nat, n ≤ k ∧ k ≤ z ∧ Own w0 wx (blk g (.cells #[.string s, .int .i64 k] 69) :: ps)) (fun _ wx => z - (intOf ((wx.cell? ⟨g, 1, none⟩).getD undef)).toNat)
  case atStart => exact ⟨n, Nat.le_refl _, hz1, H⟩
  case round =>
    clear H
    obtain ⟨k, hk0, hk, H⟩ := hrel
    have c0 := H.cells
    have hm0 : Hid ((intOf ((wr.cell? ⟨g, 1, none⟩).getD undef)).toNat = k) := Lib.hid (by rw [c0]; simp [intOf])
    by_cases hlt : k < z
    · have hr : ((k : Int) % 8 == 0) = false := by have := hz8.out; have := hz.out; simp; unfold nbytes at this; omega
      have hr2 : ((k : Int).tmod 8 == 0) = false := by rw [Int.tmod_eq_emod_of_nonneg (by omega)]; exact hr
      go_wp2_with (refine wpList_store_int rfl _ _ rfl rfl H rfl (by kernel_rfl) (by simp) ?_; clear H c0; intro w3 H)
      have c0 := H.cells
      simp only [Act.put]
      go_roundw
      case rel => exact ⟨k + 1, by omega, by omega, by simpa using H⟩
      case measure =>
        rw [hm0.out, c0]
        simp [intOf]
        omega
    · obtain rfl : k = z := by omega
      have hr : (k : Int) % 8 = 0 := by have := hz8.out; omega
      have hr2 : (k : Int).tmod 8 = 0 := by rw [Int.tmod_eq_emod_of_nonneg (by omega)]; exact hr
      go_wp2
      go_end0
      rw [hz.out]
      exact ⟨_, rfl, H⟩
set_option maxHeartbeats 400000 in
theorem rrtext_yes {w0 w : World} {ps : List Piece} {g : Nat} {s : ByteArray} {n : Nat} (m : Nat) (H : Own w0 w (RRdr g s n :: ps)) (hs : s.size ≤ 281474976710656) (hm : nbytes n + m ≤ s.size) :
    Calls Try.prog 65 #[.pointer (some ⟨g, 0, none⟩), .int .i64 m] w (Ret fun v w' => v = .tuple #[.string (s.extract (nbytes n) (nbytes n + m)), .bool true] ∧ Own w0 w' (RRdr g s (8 * (nbytes n + m)) :: ps)) := by
  obtain ⟨z, hz⟩ : ∃ z, Hid (s.size = z) := ⟨_, rfl⟩
  obtain ⟨q, hq⟩ : ∃ q, Hid (q = nbytes n) := ⟨_, Lib.hid rfl⟩
  rw [← hq.out] at hm ⊢
  have hmz : q + m ≤ z := by rw [← hz.out]; exact hm
  have hz3 : z ≤ 281474976710656 := by rw [← hz.out]; exact hs
  have hqt : ((n : Int) + 7).tdiv 8 = (q : Int) := by have := hq.out; unfold nbytes at this; rw [Int.tdiv_eq_ediv_of_nonneg (by omega)]; omega
  have hqt' : ((n : Int) + 7) / 8 = (q : Int) := by have := hq.out; unfold nbytes at this; omega
  have hn : n ≤ 2251799813685248 := by have := hq.out; unfold nbytes at this; omega
  have hle : (m : Int) ≤ (s.size : Int) - (q : Int) := by have := hz.out; omega
  have h8 : Hid (8 * ((q : Int) + (m : Int)) = ((8 * (q + m) : Nat) : Int)) := Lib.hid (by omega)
  unfold RRdr at H
  have c0 := H.cells
  go_enter Try.func65, Try.ntmps65
  go_wp2_with (refine wpList_store_int rfl _ _ rfl rfl H rfl (by kernel_rfl) (by simp) ?_; clear H c0; intro w3 H; have c0 := H.cells)
  go_ret2
  refine ⟨_, rfl, rfl, ?_⟩
  rw [h8.out] at H
  simpa [RRdr] using H
set_option maxHeartbeats 400000 in
theorem rrtext_no {w0 w : World} {ps : List Piece} {g : Nat} {s : ByteArray} {n : Nat} (m : Int) (hm1 : -9223372036854775808 ≤ m) (hm2 : m ≤ 9223372036854775807) (H : Own w0 w (RRdr g s n :: ps)) (hs : s.size ≤ 281474976710656) (hn : n ≤ 2251799813685248) (hno : m < 0 ∨ (s.size : Int) - nbytes n < m) :
    Calls Try.prog 65 #[.pointer (some ⟨g, 0, none⟩), .int .i64 m] w (Ret fun v w' => v = .tuple #[.string ByteArray.empty, .bool false] ∧ Own w0 w' (RRdr g s n :: ps)) := by
  obtain ⟨q, hq⟩ : ∃ q, Hid (q = nbytes n) := ⟨_, Lib.hid rfl⟩
  rw [← hq.out] at hno
  have hqt : ((n : Int) + 7).tdiv 8 = (q : Int) := by have := hq.out; unfold nbytes at this; rw [Int.tdiv_eq_ediv_of_nonneg (by omega)]; omega
  have hqt' : ((n : Int) + 7) / 8 = (q : Int) := by have := hq.out; unfold nbytes at this; omega
  have hqb : q ≤ 281474976710656 := by have := hq.out; unfold nbytes at this; omega
  have H0 := H
  unfold RRdr at H
  have c0 := H.cells
  go_enter Try.func65, Try.ntmps65
  by_cases h1 : m < 0
  · go_wp2
    go_ret2
    exact ⟨_, rfl, rfl, H0⟩
  have h2 : (s.size : Int) - (q : Int) < m := by omega
  clear hno
  go_wp2
  go_ret2
  exact ⟨_, rfl, rfl, H0⟩
theorem rrtext_any {w0 w : World} {ps : List Piece} {g : Nat} {s : ByteArray} {n : Nat} (m : Int) (hm : -9223372036854775808 ≤ m ∧ m ≤ 9223372036854775807) (H : Own w0 w (RRdr g s n :: ps)) (hs : s.size ≤ 1000000) (hn : n ≤ 8 * s.size) :
    Calls Try.prog 65 #[.pointer (some ⟨g, 0, none⟩), .int .i64 m] w (Ret fun v w' => v = .tuple #[.string (txV s n m), .bool (decide (txOk s n m))] ∧ Own w0 w' (RRdr g s (txN s n m) :: ps)) := by
  by_cases h : txOk s n m
  · have h' := h
    unfold txOk at h'
    obtain ⟨k, rfl⟩ : ∃ k : Nat, m = k := ⟨m.toNat, by omega⟩
    have := rrtext_yes k H (by omega) (by omega)
    simpa [txV, txN, h] using this
  · have h' := h
    unfold txOk at h'
    have := rrtext_no m hm.1 hm.2 H (by omega) (by omega) (by omega)
    simpa [txV, txN, h] using this
end Go.Proofs.Ytpbodonmiepilaa
/- inflate, the document's: the state; the walks of fault, ran, take. -/
namespace Go.Proofs.Ytpbodonmiepilaa
open Go.RowKit

/-- The document's state: of a text, n bits taken; what there is, the limit, the first fault. -/
def Sta (g rg : Nat) (s : ByteArray) (n : Nat) (out : List Int) (most e : Int) : Piece := ex fun v : Value => ex fun b : Bool =>
  star (blk g (.cells #[.pointer (some ⟨rg, 0, none⟩), v, .int .i64 most, .int .i64 e, .bool b] 67)) (star (slc 5 1 v out.length (bcells out)) (RRdr rg s n))
theorem Own.sta {w0 w : World} {ps : List Piece} {g rg : Nat} {s : ByteArray} {n : Nat} {out : List Int} {most e : Int} (H : Own w0 w (Sta g rg s n out most e :: ps)) :
    ∃ a c b, out.length ≤ c ∧ c ≤ 9223372036854775807 ∧ Own w0 w (blk g (.cells #[.pointer (some ⟨rg, 0, none⟩), .slice a out.length c, .int .i64 most, .int .i64 e, .bool b] 67) :: slc 5 1 (.slice a out.length c) out.length (bcells out) :: RRdr rg s n :: ps) := by
  obtain ⟨v, H⟩ := H.ex
  obtain ⟨b, H⟩ := H.ex
  replace H := H.star
  replace H := (H.front 1 rfl).star
  obtain ⟨a, c, rfl, h1, h2⟩ := H.rd.shape
  exact ⟨a, c, _, h1, h2, (H.front 2 rfl)⟩
theorem Own.unsta {w0 w : World} {ps : List Piece} {g rg : Nat} {s : ByteArray} {n m : Nat} {out : List Int} {most e : Int} {v : Value} {b : Bool} (H : Own w0 w (blk g (.cells #[.pointer (some ⟨rg, 0, none⟩), v, .int .i64 most, .int .i64 e, .bool b] 67) :: slc 5 1 v m (bcells out) :: RRdr rg s n :: ps)) (hm : m = out.length) : Own w0 w (Sta g rg s n out most e :: ps) := by
  subst hm
  refine Own.unex v (Own.unex b (Own.unstar ?_))
  have h := ((H.front 2 rfl).front 2 rfl).unstar
  exact h.swap
/-- The first fault. -/
def fltF (bad : Bool) (x e : Int) : Int := if bad = true ∧ e = 0 then x else e
theorem flt_ne {bad : Bool} {x e : Int} (h : e ≠ 0) : fltF bad x e = e := by unfold fltF; rw [if_neg (by simp [h])]
theorem flt_no {x e : Int} : fltF false x e = e := by unfold fltF; rw [if_neg (by simp)]
theorem flt_yes {x : Int} : fltF true x 0 = x := rfl

set_option maxHeartbeats 800000 in
theorem rfault_any {w0 w : World} {ps : List Piece} {g rg n : Nat} {s : ByteArray} {out : List Int} {most e : Int} (bad : Bool) (x : Int) (H : Own w0 w (Sta g rg s n out most e :: ps)) :
    Calls Try.prog 41 #[.pointer (some ⟨g, 0, none⟩), .bool bad, .int .i64 x] w (Ret fun _ w' => Own w0 w' (Sta g rg s n out most (fltF bad x e) :: ps)) := by
  obtain ⟨a, c, b, h1, h2, H⟩ := H.sta
  have c0 := H.cells
  go_enter Try.func41, Try.ntmps41
  cases bad
  · rw [flt_no]
    go_wp2
    go_end0
    exact ⟨_, rfl, H.unsta rfl⟩
  by_cases h : e = 0
  · have hb : (e == 0) = true := by simp [h]
    have hf : Hid (fltF true x e = x) := Lib.hid (by rw [h]; rfl)
    rw [hf.out]
    clear h
    go_wp2_with (refine wpList_store_int rfl _ _ rfl rfl H rfl (by kernel_rfl) (by simp) ?_; clear H c0; intro w3 H)
    go_end0
    exact ⟨_, rfl, H.unsta rfl⟩
  · have hb : (e == 0) = false := by simp [h]
    rw [flt_ne h]
    go_wp2
    go_end0
    exact ⟨_, rfl, H.unsta rfl⟩
set_option maxHeartbeats 800000 in
theorem rran_any {w0 w : World} {ps : List Piece} {g rg n : Nat} {s : ByteArray} {out : List Int} {most e : Int} (bad : Bool) (H : Own w0 w (Sta g rg s n out most e :: ps)) :
    Calls Try.prog 63 #[.pointer (some ⟨g, 0, none⟩), .bool bad] w (Ret fun _ w' => Own w0 w' (Sta g rg s n out most (fltF bad 2 e) :: ps)) := by
  obtain ⟨a, c, b, h1, h2, H⟩ := H.sta
  have c0 := H.cells
  go_enter Try.func63, Try.ntmps63
  cases bad
  · rw [flt_no]
    go_wp2
    go_end0
    exact ⟨_, rfl, H.unsta rfl⟩
  by_cases h : e = 0
  · have hb : (e == 0) = true := by simp [h]
    have hf : Hid (fltF true 2 e = 2) := Lib.hid (by rw [h]; rfl)
    rw [hf.out]
    clear h
    go_wp2_with (first
      | (refine wpList_store_int rfl _ _ rfl rfl H rfl (by kernel_rfl) (by simp) ?_; clear H c0; intro w3 H)
      | (refine wpList_store_bool rfl _ _ rfl rfl H rfl (by kernel_rfl) (by simp) ?_; clear H; intro w4 H))
    go_end0
    exact ⟨_, rfl, H.unsta rfl⟩
  · have hb : (e == 0) = false := by simp [h]
    rw [flt_ne h]
    go_wp2
    go_end0
    exact ⟨_, rfl, H.unsta rfl⟩
set_option maxHeartbeats 800000 in
theorem rtake_tk {w0 w : World} {ps : List Piece} {g rg n : Nat} {s : ByteArray} {out : List Int} {most : Int} (k : Nat) (hk : k ≤ 16) (H : Own w0 w (Sta g rg s n out most 0 :: ps)) (hs : s.size ≤ 1000000) (hn : n ≤ 8 * s.size) :
    Calls Try.prog 40 #[.pointer (some ⟨g, 0, none⟩), .int .i64 k] w (Ret fun r w' => r = .int .i64 (tkV s n k) ∧ Own w0 w' (Sta g rg s (tkN s n k) out most (tkE s n k 0) :: ps)) := by
  obtain ⟨a, c, b, h1, h2, H⟩ := H.sta
  have c0 := H.cells
  obtain ⟨B, hB⟩ : ∃ B, Hid (decide (tkOk s n (k : Int)) = B) := ⟨_, rfl⟩
  have hE : tkE s n k 0 = fltF (!B) 2 0 := by
    rw [← hB.out]
    unfold tkE
    by_cases ho : tkOk s n (k : Int)
    · rw [if_pos ho, decide_eq_true ho]; rfl
    · rw [if_neg ho, decide_eq_false ho]; rfl
  rw [hE]
  generalize hV : tkV s n k = V at *
  generalize hM : tkN s n k = M at *
  have HT := Lib.hid (rtake_any (g := rg) k (by omega) H.rot3' hs hn)
  rw [hV, hM, hB.out] at HT
  clear hV hM hE
  go_enter Try.func40, Try.ntmps40
  go_wp2_with fail
  refine HT.out.mono ?_
  rintro e w1 ⟨_, rfl, rfl, H1⟩
  clear HT H c0
  have H := H1.rot3
  clear H1
  have HH := Lib.hid (rran_any (g := g) (rg := rg) (!B) (H.unsta rfl))
  clear hB
  go_wp2_with fail
  refine HH.out.mono ?_
  rintro e w2 ⟨_, rfl, H2⟩
  go_wp2
  go_ret
  exact ⟨_, rfl, rfl, H2⟩
end Go.Proofs.Ytpbodonmiepilaa
/- huff: the walk of the document's Weight. -/
namespace Go.Proofs.Ytpbodonmiepilaa
open Go.RowKit

set_option maxHeartbeats 800000 in
theorem rweight_any {w : World} {v : Value} {n : Nat} {F : List Int} (hr : Rd w 1 v n (nums F)) (hn : n ≤ 1000000) (hF : ∀ x ∈ F, 0 ≤ x ∧ x ≤ 15) :
    Calls Try.prog 92 #[v] w (Ret fun r w' => r = .int .i64 (sumF wtF F) ∧ Own w w' []) := by
  have hl := Lib.hid (rd_len hr)
  obtain ⟨a, c, rfl, hc1, hc2⟩ := hr.shape
  have HR := Lib.hid hr
  have HF := Lib.hid hF
  have H := Own.start w
  obtain ⟨Z, hZ⟩ : ∃ Z, Hid (sumF wtF F = Z) := ⟨_, rfl⟩
  rw [hZ.out]
  clear hr hF
  go_enter Try.func92, Try.ntmps92
  go_wp2_with fail
  go_loopw [3, 4] (fun s3 s4 wx => ∃ i : Nat, s4 = .int .i64 i ∧ i ≤ n ∧ s3 = .int .i64 (sumF wtF (F.take i)) ∧ Own w wx []) (fun _ s4 _ => n - (intOf s4).toNat)
  case atStart => exact ⟨0, by go_num, by omega, by simp [sumF], H⟩
  case round =>
    clear H
    obtain ⟨i, rfl, hi, rfl, H⟩ := hrel
    have hb := sum_bounds (f := wtF) (F := F.take i) (B := 16384) (fun x hx => wtF_bounds (HF.out x (List.mem_of_mem_take hx)))
    have hll : (F.take i).length ≤ 1000000 := by rw [List.length_take]; omega
    have hb1 : 0 ≤ sumF wtF (F.take i) := hb.1
    have hb2 : sumF wtF (F.take i) ≤ 16384000000 := by have := hb.2; omega
    clear hb hll
    by_cases hlt : i < n
    · have hs := sum_take_succ (f := wtF) (F := F) (i := i) (by have := hl.out; omega)
      have hx := HF.out (F.getD i 0) (by
        rw [List.getD_eq_getElem?_getD, List.getElem?_eq_getElem (by have := hl.out; omega)]
        exact List.getElem_mem _)
      obtain ⟨b, o, rfl, c1⟩ := rd_at HR.out H hlt
      generalize F.getD i 0 = x at *
      obtain ⟨q, hq⟩ : ∃ q, Hid (sumF wtF (F.take i) = q) := ⟨_, rfl⟩
      have hI : (i : Int) < (n : Int) := by omega
      obtain ⟨m, rfl⟩ : ∃ m : Nat, x = m := ⟨x.toNat, by omega⟩
      rw [hq.out] at hb1 hb2 hs ⊢
      have hwb := wtF_bounds hx
      by_cases hpos : 0 < (m : Int)
      · have hw : wtF m = 2 ^ (15 - m) := by unfold wtF; rw [if_pos hpos]; rfl
        have hd : IntKind.i64.wrap (15 - (m : Int)) = ((15 - m : Nat) : Int) := by rw [IntWalk.i64_in _ ⟨by omega, by omega⟩]; omega
        obtain ⟨d, hd2⟩ : ∃ d, d = 15 - m := ⟨_, rfl⟩
        rw [← hd2] at hd hw
        rw [hw] at hs hwb
        obtain ⟨p, hp⟩ : ∃ p : Int, (2 : Int) ^ d = p := ⟨_, rfl⟩
        rw [hp] at hs hwb
        have hd15 : min d 64 = d := by omega
        clear hw hd2
        have HP := Lib.hid hp
        clear hp
        have hsw : wrap64 (q + p) = q + p := IntWalk.wrap64_in _ ⟨by omega, by omega⟩
        have hpw : wrap64 ((2 : Int) ^ min d 64) = p := by rw [hd15, HP.out]; exact IntWalk.wrap64_in _ ⟨by omega, by omega⟩
        have HS := Lib.hid hs
        clear hs hd15
        go_wp2_with fail
        go_roundw
        case rel => exact ⟨i + 1, by go_num, by omega, by rw [HS.out], H⟩
        case measure => simp [intOf]; omega
      · have hw : wtF m = 0 := by unfold wtF; rw [if_neg hpos]
        rw [hw, Int.add_zero] at hs
        have HS := Lib.hid hs
        clear hs hw
        go_wp2_with fail
        go_roundw
        case rel => exact ⟨i + 1, by go_num, by omega, by rw [HS.out], H⟩
        case measure => simp [intOf]; omega
    · obtain rfl : i = n := by omega
      have e : Hid (F.take i = F) := Lib.hid (List.take_of_length_le (by have := hl.out; omega))
      rw [e.out, hZ.out] at hb1 hb2 ⊢
      go_wp2
      go_ret
      exact ⟨_, rfl, rfl, H⟩
end Go.Proofs.Ytpbodonmiepilaa
/- huff: the walk of the document's May. -/
namespace Go.Proofs.Ytpbodonmiepilaa
open Go.RowKit

set_option maxHeartbeats 800000 in
theorem rmay_any {w : World} {v : Value} {n : Nat} {F : List Int} (hr : Rd w 1 v n (nums F)) (hn : n ≤ 1000000) :
    Calls Try.prog 91 #[v] w (Ret fun r w' => r = .bool (mayF F) ∧ Own w w' []) := by
  have hl := Lib.hid (rd_len hr)
  obtain ⟨a, c, rfl, hc1, hc2⟩ := hr.shape
  have HR := Lib.hid hr
  have H := Own.start w
  obtain ⟨Z, hZ⟩ : ∃ Z, Hid (mayF F = Z) := ⟨_, rfl⟩
  rw [hZ.out]
  clear hr
  go_enter Try.func91, Try.ntmps91
  go_wp2_with fail
  go_loopw [3] (fun s3 wx => ∃ i : Nat, s3 = .int .i64 i ∧ i ≤ n ∧ i ≤ 321 ∧ Hid ((F.take i).all okLen = true) ∧ Own w wx []) (fun s3 _ => n - (intOf s3).toNat)
  case atStart => exact ⟨0, by go_num, by omega, by omega, Lib.hid rfl, H⟩
  case round =>
    clear H
    obtain ⟨i, rfl, hi, hi2, hal, H⟩ := hrel
    by_cases hlt : i < n
    · have hI : (i : Int) < (n : Int) := by omega
      by_cases h320 : i ≤ 320
      · have h320I : (i : Int) ≤ 320 := by omega
        have hs := all_take_succ (p := okLen) (F := F) (i := i) (by have := hl.out; omega)
        obtain ⟨b, o, rfl, c1⟩ := rd_at HR.out H hlt
        have hbad : okLen (F.getD i 0) = false → Hid (Z = false) := fun h => Lib.hid (by
          rw [← hZ.out]
          unfold mayF
          have : F.all okLen = false := by
            rw [List.all_eq_false]
            refine ⟨F.getD i 0, ?_, by rw [h]; simp⟩
            rw [List.getD_eq_getElem?_getD, List.getElem?_eq_getElem (by have := hl.out; omega)]
            exact List.getElem_mem _
          rw [this, Bool.and_false])
        rw [hal.out, Bool.true_and] at hs
        generalize F.getD i 0 = x at *
        by_cases h0 : x < 0
        · have e := hbad (by simp [okLen]; omega)
          clear hs hbad
          go_wp2
          go_ret
          exact ⟨_, rfl, by rw [e.out]; rfl, H⟩
        · by_cases h15 : 15 < x
          · have e := hbad (by simp [okLen]; omega)
            clear hs hbad
            go_wp2
            go_ret
            exact ⟨_, rfl, by rw [e.out]; rfl, H⟩
          · have e : Hid ((F.take (i + 1)).all okLen = true) := Lib.hid (by rw [hs]; simp [okLen]; omega)
            clear hs hbad
            go_wp2_with fail
            go_roundw
            case rel => exact ⟨i + 1, by go_num, by omega, by omega, e, H⟩
            case measure => simp [intOf]; omega
      · have h320I : ¬ (i : Int) ≤ 320 := by omega
        have e : Hid (Z = false) := Lib.hid (by
          rw [← hZ.out]; unfold mayF
          have := hl.out
          rw [decide_eq_false (by omega), Bool.false_and])
        have hn2 : ¬ (n : Int) ≤ 320 := by omega
        go_wp2
        go_ret
        exact ⟨_, rfl, by rw [e.out]; rfl, H⟩
    · obtain rfl : i = n := by omega
      have hI : ¬ (i : Int) < (i : Int) := by omega
      have e : Hid (Z = decide (i ≤ 320)) := Lib.hid (by
        rw [← hZ.out]; unfold mayF
        have h1 := hal.out
        rw [List.take_of_length_le (by have := hl.out; omega)] at h1
        rw [h1, Bool.and_true, hl.out])
      by_cases h320 : i ≤ 320
      · have h320I : (i : Int) ≤ 320 := by omega
        have e2 : Hid (Z = true) := Lib.hid (by rw [e.out]; simp [h320])
        go_wp2
        go_ret
        exact ⟨_, rfl, by rw [e2.out]; rfl, H⟩
      · have h320I : ¬ (i : Int) ≤ 320 := by omega
        have e2 : Hid (Z = false) := Lib.hid (by rw [e.out]; simp [h320])
        go_wp2
        go_ret
        exact ⟨_, rfl, by rw [e2.out]; rfl, H⟩
end Go.Proofs.Ytpbodonmiepilaa
