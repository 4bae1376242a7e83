/-
  What is due at times: the walks of the heap of parcels.
-/
import Derived.Test.YtnpflnplpipipaaHeap
import Derived.Test.YtnpflnplpipipaaRec
import Derived.Test.YtnpflnplpipipaaReg
import Derived.Deep.DeepCutAuto
import Derived.Deep.CutBlock
import Derived.Deep.LoopGhost
import Derived.WalkLawsBesides
import Derived.WalkSpells
import Derived.BigQuiet
import Derived.Deep.QuietTactic
import Derived.Test.YtnpflnplpipipaaRows
namespace Go.Proofs.Ytnpflnplpipipaa
open Go.RowKit

namespace DueP
def icell (a : It (Int × ByteArray)) : List Value := [.int .i64 a.at_, .int .i64 a.k, .int .i64 a.x.1, .string a.x.2]
def ival (a : It (Int × ByteArray)) : Value := .agg #[.int .i64 a.at_, .int .i64 a.k, .int .i64 a.x.1, .string a.x.2]
theorem icell_length (a : It (Int × ByteArray)) : (icell a).length = 4 := rfl
theorem icell_one (a : It (Int × ByteArray)) : ∀ u ∈ icell a, u.oneCell' = true := by intro u hu; simp [icell] at hu; rcases hu with rfl | rfl | rfl | rfl <;> rfl
theorem itInfo : (Try.prog.info? 73).map (fun i => (i.zero, i.size, i.bytes)) = some (some (ival ⟨0, 0, 0, ByteArray.empty⟩), 4, 40) := by kernel_rfl
/-- A heap: its things, how many were put. -/
def Du (qA qB qC qE : Value) (g : Nat) (m : List (It (Int × ByteArray))) (k : Nat) : Piece := ex fun v : Value => star (blk g (.cells #[qA, qB, qC, qE, v, .int .i64 k] 54)) (slc 73 4 v m.length (rows icell m))
theorem it_cells {w : World} {b c i n : Nat} {m : List (It (Int × ByteArray))} {a : It (Int × ByteArray)} (h : Rd w 4 (.slice (some ⟨b, 0, none⟩) n c) n (rows icell m)) (ha : m[i]? = some a) :
    w.cell? ⟨b, i * 4, none⟩ = some (.int .i64 a.at_) ∧ w.cell? ⟨b, i * 4 + 1, none⟩ = some (.int .i64 a.k) ∧ w.cell? ⟨b, i * 4 + 2, none⟩ = some (.int .i64 a.x.1) ∧ w.cell? ⟨b, i * 4 + 3, none⟩ = some (.string a.x.2) := by
  have h0 := h.cell ((rows_get icell icell_length ha 0 (by omega)).trans rfl)
  have h1 := h.cell ((rows_get icell icell_length ha 1 (by omega)).trans rfl)
  have h2 := h.cell ((rows_get icell icell_length ha 2 (by omega)).trans rfl)
  have h3 := h.cell ((rows_get icell icell_length ha 3 (by omega)).trans rfl)
  rw [Nat.zero_add] at h0 h1 h2 h3
  exact ⟨h0, h1, h2, h3⟩

set_option maxHeartbeats 400000 in
theorem ahead_any (a b : It (Int × ByteArray)) (w : World) : Calls Try.prog 28 #[ival a, ival b] w (Ret fun v w' => v = .bool (decide (a.lt b)) ∧ Own w w' []) := by
  obtain ⟨p, k, x⟩ := a
  obtain ⟨q, l, y⟩ := b
  have H := (Own.start w).alloc2 (.cells #[.int .i64 p, .int .i64 k, .int .i64 x.1, .string x.2] 73) (.cells #[.int .i64 q, .int .i64 l, .int .i64 y.1, .string y.2] 73)
  unfold ival
  go_enter Try.func28, Try.ntmps28
  by_cases h1 : p < q
  · have e : Hid (decide ((It.mk p k x).lt ⟨q, l, y⟩) = true) := Lib.hid (by simp [It.lt, h1])
    go_wp2
    go_ret
    exact ⟨_, rfl, by rw [e.out]; rfl, H.bare⟩
  · by_cases h2 : p = q
    · subst h2
      by_cases h3 : k < l
      · have e : Hid (decide ((It.mk p k x).lt ⟨p, l, y⟩) = true) := Lib.hid (by simp [It.lt, h3])
        go_wp2
        go_ret
        exact ⟨_, rfl, by rw [e.out]; rfl, H.bare⟩
      · have e : Hid (decide ((It.mk p k x).lt ⟨p, l, y⟩) = false) := Lib.hid (decide_eq_false (by simp only [It.lt]; omega))
        have h4 : l ≤ k := by omega
        go_wp2
        go_ret
        exact ⟨_, rfl, by rw [e.out]; rfl, H.bare⟩
    · have e : Hid (decide ((It.mk p k x).lt ⟨q, l, y⟩) = false) := Lib.hid (decide_eq_false (by simp only [It.lt]; omega))
      have h4 : (p == q) = false := by simp [h2]
      have h5 : q ≤ p := by omega
      clear h2
      go_wp2
      go_ret
      exact ⟨_, rfl, by rw [e.out]; rfl, H.bare⟩

theorem duelen_any {w0 w : World} {ps : List Piece} {qA qB qC qE : Value} {g k : Nat} {m : List (It (Int × ByteArray))} (H : Own w0 w (Du qA qB qC qE g m k :: ps)) :
    Calls Try.prog 23 #[.pointer (some ⟨g, 4, none⟩)] w fun e w' => e = .returned (.int .i64 m.length) ∧ w' = w := by
  obtain ⟨v, H⟩ := H.ex
  have H := H.star
  obtain ⟨a, c, rfl, _⟩ := H.swap.rd.shape
  have c0 := H.cells
  go_enter Try.func23, Try.ntmps23
  go_wp2
  go_ret
  exact ⟨rfl, rfl⟩

set_option maxRecDepth 100000 in
set_option maxHeartbeats 1600000 in
theorem put_any {w0 w : World} {ps : List Piece} {qA qB qC qE : Value} {g k : Nat} {m : List (It (Int × ByteArray))} (at_ : Int) (x : Int × ByteArray) (H : Own w0 w (Du qA qB qC qE g m k :: ps)) (hh : Heap m) (hl : m.length ≤ 100000) (hk : k ≤ 1000000000) :
    Calls Try.prog 27 #[.pointer (some ⟨g, 4, none⟩), .int .i64 at_, .agg #[.int .i64 x.1, .string x.2]] w (Ret fun _ w' => ∃ m', Heap m' ∧ m'.Perm (m ++ [⟨at_, k, x⟩]) ∧ Own w0 w' (Du qA qB qC qE g m' (k + 1) :: ps)) := by
  obtain ⟨v, H⟩ := H.ex
  have H := H.star
  obtain ⟨a, c, rfl, hc1, hc2⟩ := H.swap.rd.shape
  go_enter Try.func27, Try.ntmps27
  go_upto_region 2 with (fail)
  have H := (((H.alloc (.cells #[.int .i64 x.1, .string x.2] 61)).front 1 rfl).front 2 rfl).swap
  generalize w.heap.size = xb at *
  generalize w.alloc (.cells #[.int .i64 x.1, .string x.2] 61) = wb at *
  refine wp_region_pres (fun σ w1 => Own w0 w1 (newR (.cells #[.int .i64 at_, .int .i64 k, .int .i64 x.1, .string x.2] 73) 1 (σ 12) ++ (blk g (.cells #[qA, qB, qC, qE, .slice a m.length c, .int .i64 k] 54) :: slc 73 4 (.slice a m.length c) m.length (rows icell m) :: blk xb (.cells #[.int .i64 x.1, .string x.2] 61) :: ps))) 13 [12] [0] (by kernel_rfl) (by kernel_rfl) (by kernel_rfl) (by kernel_rfl) (fun _ _ d _ _ h => by cases d <;> exact h) ⟨_, _, rfl, fun w => (by first | rfl | (go_simp; rfl)), rfl⟩ H.drew ?_
  simp only [List.take_succ_cons, List.take_zero, List.drop_succ_cons, List.drop_zero]
  repeat
    first
    | (refine calm_value (v := ?_) (by decide) rfl (fun σ w1 hS => ?_) ?_
       rotate_left
       · have c0 := hS.skip.cells; have cx := (hS.skip.front 2 rfl).cells
         first | (go_simp; rfl) | rfl
       simp only [Act.put, List.setIfInBounds_toArray, List.set_cons_zero, List.set_cons_succ])
    | (refine calm_skip (by decide) rfl ?_
       simp only [Act.put, List.setIfInBounds_toArray, List.set_cons_zero, List.set_cons_succ])
  refine calm_row (by decide) (fun w1 => (by go_simp)) ?_
  refine calm_nil ?_
  intro σ wd hσ HD
  obtain ⟨vn, hvn⟩ := Option.isSome_iff_exists.1 (hσ 12 (by decide))
  rw [hvn] at HD
  obtain ⟨g2, rfl, HN⟩ := HD.newr
  clear HD H
  simp only [putNew, List.foldl_cons, List.foldl_nil, hvn]
  simp only [Act.put, List.setIfInBounds_toArray, List.set_cons_zero, List.set_cons_succ, List.getElem?_cons_succ, List.getElem?_cons_zero, Option.bind_some, Option.getD_some]
  have hrow := (HN.slc_mk (xs := icell ⟨at_, k, x⟩) (n := 1) (size := 4) rfl (Nat.le_refl _) (by decide) rfl rfl).rd
  have H := HN.drop
  have H := ((H.front 2 rfl).drop)
  clear HN
  go_upto_region 4 with (first
    | (at_builtin; refine wpList_append_sep rfl _ _ rfl Try.underlying50 itInfo rfl (by decide) rfl H.swap hrow (icell_one _) (by omega) (by omega) ?_; clear H hrow; intro v' w' H; replace H := H.swap; obtain ⟨b, c', rfl, h1', h2', _⟩ := (H.front 1 rfl).at (by rw [List.length_append]; simp [icell]))
    | (refine wpList_store_slice rfl _ _ rfl rfl H rfl (by kernel_rfl) (by simp) ?_; clear H; intro w2 H; have c0 := H.cells)
    | (refine wpList_store_int rfl _ _ rfl rfl H rfl (by kernel_rfl) (by simp) ?_; clear H c0; intro w3 H; have c0 := H.cells))
  obtain ⟨n, hn⟩ : ∃ n, Hid (m.length = n) := ⟨_, rfl⟩
  have hu := heap_snoc hh ⟨at_, k, x⟩
  rw [show rows icell m ++ icell ⟨at_, k, x⟩ = rows icell (m ++ [⟨at_, k, x⟩]) by rw [rows_append, rows_one]] at H
  obtain ⟨M0, hM0⟩ : ∃ M0, Hid ((m ++ [(⟨at_, k, x⟩ : It (Int × ByteArray))]) = M0) := ⟨_, Lib.hid rfl⟩
  rw [hM0.out] at H hu
  have hML : Hid (M0.length = n + 1) := Lib.hid (by rw [← hM0.out]; simp [hn.out])
  have hpm : Hid (M0.Perm M0) := Lib.hid (List.Perm.refl _)
  rw [hML.out, hn.out] at hu
  clear c0
  rw [hn.out] at H
  rw [hn.out] at hl h1'
  have H : Own w0 w3 (blk g (.cells #[qA, qB, qC, qE, .slice (some ⟨b, 0, none⟩) (n + 1) c', .int .i64 ((k : Int) + 1)] 54) :: slc 73 4 (.slice (some ⟨b, 0, none⟩) (n + 1) c') (n + 1) (rows icell M0) :: ps) := H
  have hend : ∀ (M : List (It (Int × ByteArray))) wz, M.length = n + 1 → Own w0 wz (blk g (.cells #[qA, qB, qC, qE, .slice (some ⟨b, 0, none⟩) (n + 1) c', .int .i64 ((k : Int) + 1)] 54) :: slc 73 4 (.slice (some ⟨b, 0, none⟩) (n + 1) c') (n + 1) (rows icell M) :: ps) → Own w0 wz (Du qA qB qC qE g M (k + 1) :: ps) := by
    intro M wz hMl h
    refine Own.unex (f := fun v : Value => Go.Proofs.Ytnpflnplpipipaa.star (blk g (.cells #[qA, qB, qC, qE, v, .int .i64 ((k + 1 : Nat) : Int)] 54)) (slc 73 4 v M.length (rows icell M))) (.slice (some ⟨b, 0, none⟩) (n + 1) c') (Own.unstar ?_)
    rw [hMl]
    simpa using h
  have HEND := Lib.hid hend
  have HU := Lib.hid hu
  clear hend hu hn hh
  have c0 := H.cells
  go_wp2_with fail
  clear c0
  go_loopw [6] (fun s6 wr => ∃ (i : Nat) (M : List (It (Int × ByteArray))), s6 = .int .i64 i ∧ i ≤ n ∧ Hid (M.length = n + 1) ∧ Hid (UpF (fn M) (n + 1) i) ∧ Hid (M.Perm M0) ∧ Own w0 wr (blk g (.cells #[qA, qB, qC, qE, .slice (some ⟨b, 0, none⟩) (n + 1) c', .int .i64 ((k : Int) + 1)] 54) :: slc 73 4 (.slice (some ⟨b, 0, none⟩) (n + 1) c') (n + 1) (rows icell M) :: ps)) (fun s6 _ => (intOf s6).toNat)
  case atStart => exact ⟨n, M0, by simp, Nat.le_refl _, hML, HU, hpm, H⟩
  case round =>
    clear H HU hpm hML
    obtain ⟨i, M, rfl, hi, hML, hU, hP, H⟩ := hrel
    by_cases hi0 : i = 0
    · subst hi0
      go_upto_region 5 with (fail)
      refine wp_region_calm (fun w1 => Own w0 w1 (blk g (.cells #[qA, qB, qC, qE, .slice (some ⟨b, 0, none⟩) (n + 1) c', .int .i64 ((k : Int) + 1)] 54) :: slc 73 4 (.slice (some ⟨b, 0, none⟩) (n + 1) c') (n + 1) (rows icell M) :: ps)) 21 (by kernel_rfl) (by kernel_rfl) H.drew ?_
      simp only [List.take_succ_cons, List.take_zero, List.drop_succ_cons, List.drop_zero]
      repeat
        first
        | (refine calm_value (v := ?_) (by decide) rfl (fun σ w1 hS => ?_) ?_
           rotate_left
           · have c0 := hS.cells
             first | (go_simp; rfl) | rfl
           simp only [Act.put, List.setIfInBounds_toArray, List.set_cons_zero, List.set_cons_succ])
        | (refine calm_skip (by decide) rfl ?_
           simp only [Act.put, List.setIfInBounds_toArray, List.set_cons_zero, List.set_cons_succ])
      refine calm_nil ?_
      intro wd HD
      clear H
      go_wp2
      go_end0
      exact ⟨_, rfl, M, by unfold Heap; rw [hML.out]; exact up_done hU.out (.inl rfl), by rw [hM0.out]; exact hP.out, HEND.out M _ hML.out HD⟩
    · obtain ⟨p, hp⟩ : ∃ p, Hid (par i = p) := ⟨_, rfl⟩
      have hpi : p < i := by rw [← hp.out]; unfold par; omega
      have hpt : ((i : Int) - 1).tdiv 2 = (p : Int) := by have := hp.out; unfold par at this; rw [Int.tdiv_eq_ediv_of_nonneg (by omega)]; omega
      have hpt' : ((i : Int) - 1) / 2 = (p : Int) := by have := hp.out; unfold par at this; omega
      have h0i : (0 : Int) < (i : Int) := by omega
      have h0n : 0 < i := by omega
      have hiN : (i : Int) < (n : Int) + 1 := by omega
      have hpN : (p : Int) < (n : Int) + 1 := by omega
      have hw1 : IntKind.i64.wrap ((i : Int) - 1) = (i : Int) - 1 := IntWalk.i64_in _ ⟨by omega, by omega⟩
      have hw2 : IntKind.i64.wrap (p : Int) = (p : Int) := IntWalk.i64_in _ ⟨by omega, by omega⟩
      have ha := get_fn (m := M) (i := i) (by rw [hML.out]; omega)
      have hb := get_fn (m := M) (i := p) (by rw [hML.out]; omega)
      obtain ⟨A, hA⟩ : ∃ A, Hid (fn M i = A) := ⟨_, rfl⟩
      obtain ⟨B, hB⟩ : ∃ B, Hid (fn M p = B) := ⟨_, rfl⟩
      rw [hA.out] at ha
      rw [hB.out] at hb
      have HA := Lib.hid ha
      have HB := Lib.hid hb
      clear ha hb hi0
      obtain ⟨t, ht⟩ : ∃ t, Hid (decide (A.lt B) = t) := ⟨_, rfl⟩
      go_upto_region 5 with (fail)
      refine wp_region_calm (fun w1 => Own w0 w1 (blk g (.cells #[qA, qB, qC, qE, .slice (some ⟨b, 0, none⟩) (n + 1) c', .int .i64 ((k : Int) + 1)] 54) :: slc 73 4 (.slice (some ⟨b, 0, none⟩) (n + 1) c') (n + 1) (rows icell M) :: ps)) 21 (by kernel_rfl) (by kernel_rfl) H.drew ?_
      simp only [List.take_succ_cons, List.take_zero, List.drop_succ_cons, List.drop_zero]
      repeat
        first
        | (refine calm_value (v := ?_) (by decide) rfl (fun σ w1 hS => ?_) ?_
           rotate_left
           · have c0 := hS.cells; obtain ⟨c1, c2, c3, c3'⟩ := it_cells hS.swap.rd HA.out; obtain ⟨c4, c5, c6, c6'⟩ := it_cells hS.swap.rd HB.out
             first | (go_simp; rfl) | rfl
           simp only [Act.put, List.setIfInBounds_toArray, List.set_cons_zero, List.set_cons_succ])
        | (refine calm_skip (by decide) rfl ?_
           simp only [Act.put, List.setIfInBounds_toArray, List.set_cons_zero, List.set_cons_succ])
      refine calm_call (v := .bool t) (by decide) rfl (fun w1 => (by go_simp; first | exact ⟨rfl, rfl⟩ | rfl)) (fun σ w1 hS => ?_) ?_
      · refine (ahead_any A B w1).mono ?_
        rintro e w2 ⟨_, rfl, rfl, h2⟩
        exact ⟨by rw [ht.out], hS.join h2⟩
      simp only [Act.put, List.setIfInBounds_toArray, List.set_cons_zero, List.set_cons_succ]
      repeat
        first
        | (refine calm_value (v := ?_) (by decide) rfl (fun σ w1 hS => ?_) ?_
           rotate_left
           · skip
             first | (go_simp; rfl) | rfl
           simp only [Act.put, List.setIfInBounds_toArray, List.set_cons_zero, List.set_cons_succ])
        | (refine calm_skip (by decide) rfl ?_
           simp only [Act.put, List.setIfInBounds_toArray, List.set_cons_zero, List.set_cons_succ])
      refine calm_nil ?_
      intro wd HD
      clear H
      cases t with
      | true =>
        have hlt : A.lt B := by simpa using ht.out
        go_upto_region 7 with (fail)
        refine wp_region_pres (fun _ w1 => Own w0 w1 (blk g (.cells #[qA, qB, qC, qE, .slice (some ⟨b, 0, none⟩) (n + 1) c', .int .i64 ((k : Int) + 1)] 54) :: slc 73 4 (.slice (some ⟨b, 0, none⟩) (n + 1) c') (n + 1) (rows icell M) :: ps)) 28 [] [9, 10, 11] (by kernel_rfl) (by kernel_rfl) (by kernel_rfl) (by kernel_rfl) (fun _ _ d _ _ h => by cases d <;> exact h) ⟨_, _, rfl, fun w => (by first | rfl | (go_simp; rfl)), _, _, rfl, fun w => (by first | rfl | (go_simp; rfl)), _, _, rfl, fun w => (by first | rfl | (go_simp; rfl)), rfl⟩ HD.drew ?_
        simp only [List.take_succ_cons, List.take_zero, List.drop_succ_cons, List.drop_zero]
        repeat
          first
          | (refine calm_value (v := ?_) (by decide) rfl (fun σ w1 hS => ?_) ?_
             rotate_left
             · have c0 := hS.cells; obtain ⟨c1, c2, c3, c3'⟩ := it_cells hS.swap.rd HA.out; obtain ⟨c4, c5, c6, c6'⟩ := it_cells hS.swap.rd HB.out
               first | (go_simp; rfl) | rfl
             simp only [Act.put, List.setIfInBounds_toArray, List.set_cons_zero, List.set_cons_succ])
          | (refine calm_skip (by decide) rfl ?_
             simp only [Act.put, List.setIfInBounds_toArray, List.set_cons_zero, List.set_cons_succ])
        refine calm_nil ?_
        intro σ2 wd2 _ H
        simp only [putNew, List.foldl_nil]
        clear HD
        have hset1 : (rows icell M).take (i * 4) ++ icell B ++ (rows icell M).drop (i * 4 + 4) = rows icell (M.set i B) := (rows_set icell icell_length (by rw [hML.out]; omega) B).symm
        have hset2 : (rows icell (M.set i B)).take (p * 4) ++ icell A ++ (rows icell (M.set i B)).drop (p * 4 + 4) = rows icell (swapL M i p) := by
          rw [← rows_set icell icell_length (by rw [List.length_set, hML.out]; omega) A]
          unfold swapL
          rw [hA.out, hB.out]
        have HS1 := Lib.hid hset1
        have HS2 := Lib.hid hset2
        clear hset1 hset2
        have hsl : Hid ((swapL M i p).length = n + 1) := Lib.hid (by rw [swapL_length, hML.out])
        have hsu : Hid (UpF (fn (swapL M i p)) (n + 1) p) := Lib.hid (by
          rw [fn_swapL (by rw [hML.out]; omega) (by rw [hML.out]; omega) (by omega), ← hp.out]
          exact up_step hU.out h0n (by omega) (by rw [hA.out, hp.out, hB.out]; exact hlt))
        have hsp : Hid ((swapL M i p).Perm M0) := Lib.hid ((swapL_perm (by rw [hML.out]; omega) (by rw [hML.out]; omega)).trans hP.out)
        generalize swapL M i p = M2 at *
        clear hlt ht
        go_wp2_with (first
          | (refine wpList_store_elem rfl _ _ rfl (i := i) rfl H.swap (icell B) rfl (by kernel_rfl) rfl (by omega) (icell_one B) ?_; clear H; intro w5 H; rw [HS1.out] at H)
          | (refine wpList_store_elem rfl _ _ rfl (i := p) rfl H (icell A) rfl (by kernel_rfl) rfl (by omega) (icell_one A) ?_; clear H; intro w6 H; rw [HS2.out] at H))
        go_roundw
        case rel => exact ⟨p, M2, by go_num, by omega, hsl, hsu, hsp, H.swap⟩
        case measure => simp [intOf]; omega
      | false =>
        have hlt : ¬ A.lt B := by simpa using ht.out
        have hfin : Hid (Heap M) := Lib.hid (by
          unfold Heap
          rw [hML.out]
          exact up_done hU.out (.inr (by rw [hA.out, hp.out, hB.out]; exact hlt)))
        clear hlt
        go_wp2
        go_end0
        exact ⟨_, rfl, M, hfin.out, by rw [hM0.out]; exact hP.out, HEND.out M _ hML.out HD⟩
end DueP
end Go.Proofs.Ytnpflnplpipipaa
