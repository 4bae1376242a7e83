/-
  lz: the walk of Parse.
-/
import Derived.Test.YteblnmealnmipaaLzC
import Derived.Test.YteblnmealnmipaaLzT
import Derived.Carry
namespace Go.Proofs.Yteblnmealnmipaa
open Go.RowKit Go.Maps

theorem intInfo : (Try.prog.info? 3).map (fun i => (i.zero, i.size, i.bytes)) = some (some (.int .i64 0), 1, 8) := by kernel_rfl
theorem tokInfo : (Try.prog.info? 36).map (fun i => (i.zero, i.size, i.bytes)) = some (some (tval ⟨0, 0, 0⟩), 3, 24) := by kernel_rfl

set_option maxRecDepth 100000 in
set_option maxHeartbeats 3200000 in
theorem lzparse_any {w0 w : World} {ps : List Piece} {s : ByteArray} (H : Own w0 w ps) (hs : s.size ≤ 1000000) :
    Calls Try.prog 10 #[.string s] w (Ret fun v w' => Own w0 w' (slc 36 3 v (parse s).length (rows tcell (parse s)) :: ps)) := by
  have hmk : ∀ w : World, (Instr.makeSlice 42 (.int .i64 s.size) (.int .i64 s.size)).run Try.prog w = .ok (.slice (some ⟨w.heap.size, 0, none⟩) s.size s.size) (w.alloc (.cells (madeCells #[.int .i64 0] s.size) 3)) := run_make_row' _ _ _ 8 Try.underlying42 intInfo rfl .i64 .i64 s.size (by omega) (by omega)
  have hmm := fun w => run_makeMap (P := Try.prog) 41 w
  have hnew : Own w0 (((w.alloc (.map #[] 0)).alloc (.cells (madeCells #[.int .i64 0] s.size) 3)).alloc (.cells #[.string s, .map (some w.heap.size), .slice (some ⟨w.heap.size + 1, 0, none⟩) s.size s.size] 44)) (Fnd (w.heap.size + 1 + 1) s 0 :: ps) := by
    have h1 := (H.mpi_new (P := Try.prog) (K := 49) (E := 3) (enc := k3)).alloc2 (.cells (madeCells #[.int .i64 0] s.size) 3) (.cells #[.string s, .map (some w.heap.size), .slice (some ⟨w.heap.size + 1, 0, none⟩) s.size s.size] 44)
    have e : (w.alloc (.map #[] 0)).heap.size = w.heap.size + 1 := by simp
    rw [e] at h1
    have h2 := h1.swap.slc_mk (xs := nums (List.replicate s.size 0)) (n := s.size) (size := 1) (by simp [nums]) (Nat.le_refl _) (by simp [maxLen]; omega) (by simp [size_madeCells]) (by rw [toList_madeCells_one]; simp [nums])
    refine fnd_shut (b := w.heap.size) (v := .slice (some ⟨w.heap.size + 1, 0, none⟩) s.size s.size) (xs := List.replicate s.size 0) ⟨by simp, fun q h => by omega⟩ ?_
    rw [gOf_zero]
    exact (h2.swap.front 2 rfl).swap
  have HN := Lib.hid hnew
  clear hnew
  obtain ⟨W, hW⟩ : ∃ W, Hid (parseN s s.size 0 = W) := ⟨_, rfl⟩
  have hp : Hid (parse s = W) := Lib.hid hW.out
  rw [hp.out]
  go_enter Try.func10, Try.ntmps10
  go_upto_region 2 with (fail)
  have H1 := HN.out
  clear HN H
  generalize ((w.alloc (.map #[] 0)).alloc (.cells (madeCells #[.int .i64 0] s.size) 3)).alloc (.cells #[.string s, .map (some w.heap.size), .slice (some ⟨w.heap.size + 1, 0, none⟩) s.size s.size] 44) = wx at *
  generalize w.heap.size + 1 + 1 = g at *
  have H := (H1.nil 36 3).swap
  clear H1
  go_wp2_with fail
  go_loopw [4, 5] (fun s4 s5 wr => ∃ (i f : Nat) (l : List Tok), s5 = .int .i64 i ∧ i ≤ s.size ∧ s.size ≤ i + f ∧ Hid (l ++ parseN s f i = W) ∧ l.length ≤ i ∧ Own w0 wr (Fnd g s i :: slc 36 3 s4 l.length (rows tcell l) :: ps)) (fun _ s5 _ => s.size - (intOf s5).toNat)
  case atStart => exact ⟨0, s.size, [], by simp, by omega, by omega, hW, by simp, H⟩
  case round =>
    clear H
    obtain ⟨i, f, l, rfl, hi, hf, hl, hll, H⟩ := hrel
    by_cases hlt : i < s.size
    · have hltI : (i : Int) < (s.size : Int) := by omega
      obtain ⟨f, rfl⟩ : ∃ f', f = f' + 1 := ⟨f - 1, by omega⟩
      have hpn : parseN s (f + 1) i = tokAt s i :: parseN s f (i + stepAt s i) := by rw [parseN, if_pos hlt]
      have hsl := stepAt_le hlt
      have hsp := stepAt_pos s i
      have hst : stepAt s i = if 3 ≤ (found s i).1 then (found s i).1 else 1 := rfl
      have htk : tokAt s i = if 3 ≤ (found s i).1 then ⟨(found s i).1, (found s i).2, 0⟩ else ⟨0, 0, (byt s i).toNat⟩ := rfl
      obtain ⟨m, hm⟩ : ∃ m, Hid (stepAt s i = m) := ⟨_, rfl⟩
      obtain ⟨t, ht⟩ : ∃ t, Hid (tokAt s i = t) := ⟨_, rfl⟩
      rw [hm.out] at hst hpn hsl hsp
      rw [ht.out] at htk hpn
      have hl2 : Hid ((l ++ [t]) ++ parseN s f (i + m) = W) := Lib.hid (by rw [← hl.out, hpn]; simp)
      clear hl hpn
      obtain ⟨n, d, hF⟩ : ∃ n d, Hid (found s i = (n, d)) := ⟨_, _, rfl⟩
      rw [hF.out] at hst htk
      go_upto_region 5 with (fail)
      go_wp2_with fail
      refine (find_any H hlt hs).mono ?_
      rintro e w1 ⟨_, rfl, rfl, H1⟩
      rw [hF.out]
      clear H
      have e0 := byt_is hlt
      have hx8 := (byt s i).toNat_lt
      have hwx : wrap64 (((byt s i).toNat : Nat) : Int) = (((byt s i).toNat : Nat) : Int) := IntWalk.wrap64_in _ ⟨by omega, by omega⟩
      obtain ⟨cv, hcv⟩ : ∃ cv, Hid (w1.heap.size = cv) := ⟨_, rfl⟩
      by_cases h3 : 3 ≤ n
      case pos =>
        have h3I : ¬ (n : Int) < 3 := by omega
        rw [if_pos h3] at hst htk
        subst hst
        have HT := Lib.hid htk
        clear htk hwx e0 hx8
        go_upto_region 10 with (refine wpList_store_agg rfl _ _ rfl rfl (H1.alloc _) rfl (by kernel_rfl) (by simp) (by simp; exact ⟨rfl, rfl, rfl⟩) rfl ?_; clear H1; intro w5 H; rw [hcv.out] at H ⊢)
        have H : Own w0 w5 (blk cv (.cells #[.int .i64 t.len, .int .i64 t.dist, .int .i64 t.lit] 36) :: Fnd g s i :: slc 36 3 u4 l.length (rows tcell l) :: ps) := by rw [HT.out]; exact H
        clear h3 h3I hF
        go_wp2_with fail
        go_loopw [5, 37] (fun s5 s37 wr => ∃ k : Nat, s5 = .int .i64 ((i + k : Nat) : Int) ∧ s37 = .int .i64 k ∧ k ≤ m ∧ Own w0 wr (blk cv (.cells #[.int .i64 t.len, .int .i64 t.dist, .int .i64 t.lit] 36) :: Fnd g s (i + k) :: slc 36 3 u4 l.length (rows tcell l) :: ps)) (fun _ s37 _ => m - (intOf s37).toNat)
        case atStart => exact ⟨0, by simp, by simp, by omega, H⟩
        case round =>
          clear H
          obtain ⟨k, rfl, rfl, hk, H⟩ := hrel
          by_cases hkm : k < m
          · have hkI : (k : Int) < (m : Int) := by omega
            obtain ⟨j, hj⟩ : ∃ j, Hid (i + k = j) := ⟨_, rfl⟩
            have hjs : j < s.size := by have := hj.out; omega
            rw [hj.out] at H ⊢
            go_wp2_with fail
            refine (fput_any H.swap hjs hs).mono ?_
            rintro e w6 ⟨_, rfl, H6⟩
            clear H
            go_wp2_with fail
            go_roundw
            case rel => exact ⟨k + 1, by have := hj.out; go_num; try omega, by go_num, by omega, (by rw [← Nat.add_assoc, hj.out]; exact H6.swap)⟩
            case measure => simp [intOf]; omega
          · have hkI : ¬ (k : Int) < (m : Int) := by omega
            have hke : m = k := by omega
            rw [hke] at hl2 hsl hsp
            have c0 := H.cells
            obtain ⟨a', c', rfl, h1', h2'⟩ := (H.front 2 rfl).rd.shape
            go_wp2_with (at_builtin; refine wpList_append_one rfl _ _ rfl Try.underlying24 tokInfo rfl (by decide) rfl (H.front 2 rfl) (news := tcell t) rfl rfl rfl (tcell_one t) (by omega) (by omega) ?_; clear H c0; intro v' w7 H)
            go_roundw
            case rel =>
              refine ⟨i + k, f, l ++ [t], by go_num, by omega, by omega, hl2, by simp; omega, ?_⟩
              rw [rows_append, rows_one, List.length_append]
              exact ((((H.front 2 rfl).front 2 rfl).drop))
            case measure => simp [intOf]; omega
      case neg =>
        have h3I : (n : Int) < 3 := by omega
        rw [if_neg h3] at hst htk
        subst hst
        have HT := Lib.hid htk
        clear htk
        go_upto_region 10 with (first
          | (refine wpList_store_agg rfl _ _ rfl rfl (H1.alloc _) rfl (by kernel_rfl) (by simp) (by simp; exact ⟨rfl, rfl, rfl⟩) rfl ?_; clear H1; intro w4 H4; rw [hcv.out] at H4 ⊢)
          | (refine wpList_store_agg (vs := tcell ⟨0, 0, (byt s i).toNat⟩) rfl _ _ rfl rfl H4 (by first | rfl | (go_simp; done)) (by kernel_rfl) (by simp [tcell]) (tcell_one _) rfl ?_; clear H4; intro w5 H))
        have H : Own w0 w5 (blk cv (.cells #[.int .i64 t.len, .int .i64 t.dist, .int .i64 t.lit] 36) :: Fnd g s i :: slc 36 3 u4 l.length (rows tcell l) :: ps) := by rw [HT.out]; exact H
        clear hwx e0 hx8
        clear h3 h3I hF
        go_wp2_with fail
        go_loopw [5, 37] (fun s5 s37 wr => ∃ k : Nat, s5 = .int .i64 ((i + k : Nat) : Int) ∧ s37 = .int .i64 k ∧ k ≤ 1 ∧ Own w0 wr (blk cv (.cells #[.int .i64 t.len, .int .i64 t.dist, .int .i64 t.lit] 36) :: Fnd g s (i + k) :: slc 36 3 u4 l.length (rows tcell l) :: ps)) (fun _ s37 _ => 1 - (intOf s37).toNat)
        case atStart => exact ⟨0, by simp, by simp, by omega, H⟩
        case round =>
          clear H
          obtain ⟨k, rfl, rfl, hk, H⟩ := hrel
          by_cases hkm : k < 1
          · have hkI : (k : Int) < 1 := by omega
            obtain ⟨j, hj⟩ : ∃ j, Hid (i + k = j) := ⟨_, rfl⟩
            have hjs : j < s.size := by have := hj.out; omega
            rw [hj.out] at H ⊢
            go_wp2_with fail
            refine (fput_any H.swap hjs hs).mono ?_
            rintro e w6 ⟨_, rfl, H6⟩
            clear H
            go_wp2_with fail
            go_roundw
            case rel => exact ⟨k + 1, by have := hj.out; go_num; try omega, by go_num, by omega, (by rw [← Nat.add_assoc, hj.out]; exact H6.swap)⟩
            case measure => simp [intOf]; omega
          · have hkI : ¬ (k : Int) < 1 := by omega
            obtain rfl : k = 1 := by omega
            have c0 := H.cells
            obtain ⟨a', c', rfl, h1', h2'⟩ := (H.front 2 rfl).rd.shape
            go_wp2_with (at_builtin; refine wpList_append_one rfl _ _ rfl Try.underlying24 tokInfo rfl (by decide) rfl (H.front 2 rfl) (news := tcell t) rfl rfl rfl (tcell_one t) (by omega) (by omega) ?_; clear H c0; intro v' w7 H)
            go_roundw
            case rel =>
              refine ⟨i + 1, f, l ++ [t], by go_num, by omega, by omega, hl2, by simp; omega, ?_⟩
              rw [rows_append, rows_one, List.length_append]
              exact ((((H.front 2 rfl).front 2 rfl).drop))
            case measure => simp [intOf]; omega
    · have hltI : ¬ (i : Int) < (s.size : Int) := by omega
      have hfin : Hid (l = W) := Lib.hid (by rw [← hl.out, parseN_end (by omega)]; simp)
      clear hl
      go_wp2
      go_ret
      refine ⟨_, rfl, ?_⟩
      rw [← hfin.out]
      exact H.drop
end Go.Proofs.Yteblnmealnmipaa
