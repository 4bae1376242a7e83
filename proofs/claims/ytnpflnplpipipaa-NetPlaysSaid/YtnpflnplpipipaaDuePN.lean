/-
  What is due at times: the walk of Next, over parcels.
-/
import Derived.Test.YtnpflnplpipipaaDueP
import Derived.Test.YtnpflnplpipipaaCell
namespace Go.Proofs.Ytnpflnplpipipaa
open Go.RowKit
namespace DueP
set_option maxRecDepth 100000 in
set_option maxHeartbeats 800000 in
theorem next_none {w0 w : World} {ps : List Piece} {qA qB qC qE : Value} {g k : Nat} {m : List (It (Int × ByteArray))} (now : Int) (H : Own w0 w (Du qA qB qC qE g m k :: ps)) (hno : ∀ a, m[0]? = some a → now < a.at_) (hl : m.length ≤ 1000000) :
    Calls Try.prog 22 #[.pointer (some ⟨g, 4, none⟩), .int .i64 now] w (Ret fun v w' => v = .tuple #[.agg #[.int .i64 0, .string ⟨#[]⟩], .bool false] ∧ Own w0 w' (Du qA qB qC qE g m k :: ps)) := by
  go_enter Try.func22, Try.ntmps22
  go_wp2_with fail
  have H2 := (H.alloc2 (.cells #[.int .i64 0, .string ⟨#[]⟩] 61) (.cells #[.int .i64 0, .string ⟨#[]⟩] 61)).front 2 rfl
  generalize (w.alloc (.cells #[.int .i64 0, .string ⟨#[]⟩] 61)).alloc (.cells #[.int .i64 0, .string ⟨#[]⟩] 61) = wa at *
  generalize w.heap.size + 1 = b6 at *
  generalize w.heap.size = b4 at *
  clear H
  refine (duelen_any H2).mono ?_
  rintro e w1 ⟨rfl, rfl⟩
  have H0 := H2
  obtain ⟨v, H⟩ := H2.ex
  have H := H.star
  obtain ⟨a0, c, rfl, hc1, hc2⟩ := H.swap.rd.shape
  have c0 := H.cells
  have cz := (H.front 2 rfl).cells
  cases m with
  | nil =>
    go_wp2_with (refine wpList_store_agg (vs := [.int .i64 0, .string ⟨#[]⟩]) rfl _ _ rfl rfl (H0.front 2 rfl) rfl (by kernel_rfl) (by simp) (by simp [Value.oneCell']) rfl ?_; clear H0 H c0 cz; intro w5 H)
    refine bodyPost_ret (results_cell_tmp_row rfl _ _ b4 _ _ _ _ rfl H.block.1 Try.underlying61 rfl (by kernel_rfl)) rfl ?_
    exact ⟨_, rfl, rfl, H.drop.swap.drop⟩
  | cons a m =>
    have hlt := hno a rfl
    clear hno
    obtain ⟨b, _, e, _⟩ := H.swap.at (by simp [rows, icell])
    cases e
    obtain ⟨c1, c2, c3, c3'⟩ := it_cells (i := 0) H.swap.rd rfl
    simp only [Nat.zero_mul, Nat.zero_add] at c1 c2 c3 c3'
    go_wp2_with (refine wpList_store_agg (vs := [.int .i64 0, .string ⟨#[]⟩]) rfl _ _ rfl rfl (H0.front 2 rfl) rfl (by kernel_rfl) (by simp) (by simp [Value.oneCell']) rfl ?_; clear H0 H c0 cz c1 c2 c3 c3'; intro w5 H)
    refine bodyPost_ret (results_cell_tmp_row rfl _ _ b4 _ _ _ _ rfl H.block.1 Try.underlying61 rfl (by kernel_rfl)) rfl ?_
    exact ⟨_, rfl, rfl, H.drop.swap.drop⟩

set_option maxRecDepth 100000 in
set_option maxHeartbeats 3200000 in
theorem next_some {w0 w : World} {ps : List Piece} {qA qB qC qE : Value} {g k : Nat} {m : List (It (Int × ByteArray))} {a : It (Int × ByteArray)} (now : Int) (H : Own w0 w (Du qA qB qC qE g m k :: ps)) (hh : Heap m) (ha : m[0]? = some a) (hno : a.at_ ≤ now) (hl : m.length ≤ 1000000) :
    Calls Try.prog 22 #[.pointer (some ⟨g, 4, none⟩), .int .i64 now] w (Ret fun v w' => v = .tuple #[.agg #[.int .i64 a.x.1, .string a.x.2], .bool true] ∧ ∃ m', Heap m' ∧ (a :: m').Perm m ∧ Own w0 w' (Du qA qB qC qE g m' k :: ps)) := by
  go_enter Try.func22, Try.ntmps22
  go_wp2_with fail
  have H2 := (H.alloc2 (.cells #[.int .i64 0, .string ⟨#[]⟩] 61) (.cells #[.int .i64 0, .string ⟨#[]⟩] 61)).front 2 rfl
  generalize (w.alloc (.cells #[.int .i64 0, .string ⟨#[]⟩] 61)).alloc (.cells #[.int .i64 0, .string ⟨#[]⟩] 61) = wa at *
  generalize w.heap.size + 1 = b6 at *
  generalize w.heap.size = b4 at *
  clear H
  have H := H2
  clear H2
  refine (duelen_any H).mono ?_
  rintro e w1 ⟨rfl, rfl⟩
  obtain ⟨v, H⟩ := H.ex
  have H := H.star
  obtain ⟨a0, c, rfl, hc1, hc2⟩ := H.swap.rd.shape
  obtain ⟨n, hn⟩ : ∃ n, Hid (m.length = n + 1) := ⟨m.length - 1, Lib.hid (by have := (List.getElem?_eq_some_iff.1 ha).1; omega)⟩
  rw [hn.out] at H hl hc1 ⊢
  obtain ⟨b, _, e, _⟩ := H.swap.at (by rw [rows_length icell icell_length, hn.out]; omega)
  cases e
  have c0 := H.cells
  have HA := Lib.hid ha
  obtain ⟨c1, c2, c3, c3'⟩ := it_cells (i := 0) H.swap.rd ha
  simp only [Nat.zero_mul, Nat.zero_add] at c1 c2 c3 c3'
  have hdn := Lib.hid (heap_drop hh hn.out (fn m n))
  have hpm := Lib.hid (drop_perm hn.out ha (get_fn (m := m) (i := n) (by rw [hn.out]; omega)))
  have hbn := get_fn (m := m) (i := n) (by rw [hn.out]; omega)
  obtain ⟨B, hB⟩ : ∃ B, Hid (fn m n = B) := ⟨_, rfl⟩
  rw [hB.out] at hbn
  have HB := Lib.hid hbn
  clear ha hh hbn
  have hne : ((n : Int) + 1 == 0) = false := by simp; omega
  go_upto_region 6 with (refine wpList_store_agg (vs := [.int .i64 a.x.1, .string a.x.2]) rfl _ _ rfl rfl (H.alloc _) rfl (by kernel_rfl) (by simp) (by simp [Value.oneCell']) rfl ?_; clear H c0 c1 c2 c3 c3'; intro wy H; have c0 := (H.front 1 rfl).cells)
  generalize w1.heap.size = b7 at *
  clear c0
  obtain ⟨ps2, hps2⟩ : ∃ ps2, Hid ((blk b7 (.cells #[.int .i64 a.x.1, .string a.x.2] 61) :: blk b4 (.cells #[.int .i64 0, .string ⟨#[]⟩] 61) :: ps) = ps2) := ⟨_, Lib.hid rfl⟩
  have H : Own w0 wy (blk g (.cells #[qA, qB, qC, qE, .slice (some ⟨b, 0, none⟩) (n + 1) c, .int .i64 (k : Int)] 54) :: slc 73 4 (.slice (some ⟨b, 0, none⟩) (n + 1) c) (n + 1) (rows icell m) :: ps2) := by
    rw [← hps2.out]
    exact (((((H.front 2 rfl).front 2 rfl).front 3 rfl).drop))
  have hnN : (n : Int) < (n : Int) + 1 := by omega
  refine wp_region_calm (fun w1 => Own w0 w1 (blk g (.cells #[qA, qB, qC, qE, .slice (some ⟨b, 0, none⟩) (n + 1) c, .int .i64 (k : Int)] 54) :: slc 73 4 (.slice (some ⟨b, 0, none⟩) (n + 1) c) (n + 1) (rows icell m) :: ps2)) 11 (by kernel_rfl) (by kernel_rfl) H.drew ?_
  simp only [List.take_succ_cons, List.take_zero, List.drop_succ_cons, List.drop_zero]
  repeat
    first
    | (refine calm_value (v := ?_) (by decide) rfl (fun σ w1 hS => ?_) ?_
       rotate_left
       · have c0 := hS.cells; obtain ⟨c1, c2, c3, c3'⟩ := it_cells hS.swap.rd HB.out
         first | (go_simp; rfl) | rfl
       simp only [Act.put, List.setIfInBounds_toArray, List.set_cons_zero, List.set_cons_succ])
    | (refine calm_skip (by decide) rfl ?_
       simp only [Act.put, List.setIfInBounds_toArray, List.set_cons_zero, List.set_cons_succ])
  refine calm_nil ?_
  intro wd HD
  clear H
  have hset1 : (rows icell m).take (0 * 4) ++ icell B ++ (rows icell m).drop (0 * 4 + 4) = rows icell (m.set 0 B) := (rows_set icell icell_length (by rw [hn.out]; omega) B).symm
  have HS1 := Lib.hid hset1
  have hset2 : (rows icell (m.set 0 B)).take (n * 4) ++ icell ⟨0, 0, 0, ByteArray.empty⟩ ++ (rows icell (m.set 0 B)).drop (n * 4 + 4) = rows icell ((m.set 0 B).set n ⟨0, 0, 0, ByteArray.empty⟩) := (rows_set icell icell_length (by rw [List.length_set, hn.out]; omega) _).symm
  have HS2 := Lib.hid hset2
  clear hset1 hset2
  go_upto_region 7 with (refine wpList_store_elem rfl _ _ rfl (i := 0) rfl HD.swap (icell B) rfl (by kernel_rfl) rfl (by omega) (icell_one B) ?_; clear HD; intro w5 HD; rw [HS1.out] at HD; replace HD := HD.swap)
  have c0 := HD.cells
  go_upto_region 9 with (first
    | (refine wpList_store_elem rfl _ _ rfl (i := n) rfl HD.swap (icell ⟨0, 0, 0, ByteArray.empty⟩) rfl (by kernel_rfl) rfl (by omega) (icell_one _) ?_; clear HD c0; intro w5 HD; rw [HS2.out] at HD; replace HD := HD.swap; have c0 := HD.cells)
    | (refine wpList_store_slice rfl _ _ rfl rfl HD rfl (by kernel_rfl) (by simp) ?_; clear HD c0; intro w6 HD))
  have H2 := (HD.swap.slc_take (k := n) (by omega)).swap
  obtain ⟨M0, hM0⟩ : ∃ M0, Hid ((m.set 0 B).take n = M0) := ⟨_, Lib.hid rfl⟩
  rw [rows_take icell icell_length, List.take_set_of_le (Nat.le_refl _), hM0.out] at H2
  have hML : Hid (M0.length = n) := Lib.hid (by rw [← hM0.out, List.length_take, List.length_set, hn.out]; omega)
  have hpm2 : Hid ((a :: M0).Perm m) := Lib.hid (by rw [← hM0.out, ← hB.out]; exact hpm.out)
  have hdn2 : Hid (DnF (fn M0) n 0) := Lib.hid (by rw [← hM0.out, ← hB.out]; exact hdn.out)
  clear HD hdn hpm HS1 HS2 hM0
  have H : Own w0 w6 (blk g (.cells #[qA, qB, qC, qE, .slice (some ⟨b, 0, none⟩) n c, .int .i64 (k : Int)] 54) :: slc 73 4 (.slice (some ⟨b, 0, none⟩) n c) n (rows icell M0) :: ps2) := H2
  clear H2
  have hend : ∀ (M : List (It (Int × ByteArray))) wz qs, M.length = n → Own w0 wz (blk g (.cells #[qA, qB, qC, qE, .slice (some ⟨b, 0, none⟩) n c, .int .i64 (k : Int)] 54) :: slc 73 4 (.slice (some ⟨b, 0, none⟩) n c) n (rows icell M) :: qs) → Own w0 wz (Du qA qB qC qE g M k :: qs) := by
    intro M wz qs hMl h
    refine Own.unex (f := fun v : Value => Go.Proofs.Ytnpflnplpipipaa.star (blk g (.cells #[qA, qB, qC, qE, v, .int .i64 (k : Int)] 54)) (slc 73 4 v M.length (rows icell M))) (.slice (some ⟨b, 0, none⟩) n c) (Own.unstar ?_)
    rw [hMl]
    exact h
  have HEND := Lib.hid hend
  clear hend hnN hne
  go_wp2_with fail
  go_loopw [9] (fun s9 wr => ∃ (i : Nat) (M : List (It (Int × ByteArray))), s9 = .int .i64 i ∧ i ≤ n ∧ Hid (M.length = n) ∧ Hid (DnF (fn M) n i) ∧ Hid (M.Perm M0) ∧ Own w0 wr (blk g (.cells #[qA, qB, qC, qE, .slice (some ⟨b, 0, none⟩) n c, .int .i64 (k : Int)] 54) :: slc 73 4 (.slice (some ⟨b, 0, none⟩) n c) n (rows icell M) :: ps2)) (fun s9 _ => n - (intOf s9).toNat)
  case atStart => exact ⟨0, M0, rfl, Nat.zero_le _, hML, hdn2, Lib.hid (List.Perm.refl _), H⟩
  case round =>
    clear H hdn2 hML
    obtain ⟨i, M, rfl, hi, hML, hD, hP, H⟩ := hrel
    by_cases hlt : 2 * i + 1 < n
    · have hlt2 : 2 * (i : Int) + 1 < (n : Int) := by omega
      obtain ⟨c1, hc1'⟩ : ∃ c1, Hid (2 * i + 1 = c1) := ⟨_, Lib.hid rfl⟩
      have hci : 2 * (i : Int) + 1 = (c1 : Int) := by have := hc1'.out; omega
      have hcn : c1 < n := by have := hc1'.out; omega
      have hcnI : (c1 : Int) < (n : Int) := by omega
      obtain ⟨d1, hd1⟩ : ∃ d1, Hid (c1 + 1 = d1) := ⟨_, Lib.hid rfl⟩
      have hdi : (c1 : Int) + 1 = (d1 : Int) := by have := hd1.out; omega
      have hwd : IntKind.i64.wrap (d1 : Int) = (d1 : Int) := IntWalk.i64_in _ ⟨by omega, by omega⟩
      have hb := get_fn (m := M) (i := c1) (by rw [hML.out]; omega)
      obtain ⟨B1, hB1⟩ : ∃ B1, Hid (fn M c1 = B1) := ⟨_, rfl⟩
      rw [hB1.out] at hb
      have HB1 := Lib.hid hb
      clear hlt hb
      go_upto_region 12 with (fail)
      clear hci hlt2
      go_cut [96] (fun s96 wx => ∃ t : Bool, s96 = .bool t ∧ (if t then d1 else c1) < n ∧ Hid (0 < (if t then d1 else c1) ∧ par (if t then d1 else c1) = i ∧ ∀ d, 0 < d → d < n → par d = i → ¬ (fn M d).lt (fn M (if t then d1 else c1))) ∧ Own w0 wx (blk g (.cells #[qA, qB, qC, qE, .slice (some ⟨b, 0, none⟩) n c, .int .i64 (k : Int)] 54) :: slc 73 4 (.slice (some ⟨b, 0, none⟩) n c) n (rows icell M) :: ps2))
      case first =>
        by_cases hdn : d1 < n
        · have hdnI : (d1 : Int) < (n : Int) := by omega
          have ha := get_fn (m := M) (i := d1) (by rw [hML.out]; omega)
          obtain ⟨A1, hA1⟩ : ∃ A1, Hid (fn M d1 = A1) := ⟨_, rfl⟩
          rw [hA1.out] at ha
          have HA1 := Lib.hid ha
          clear ha
          obtain ⟨t, ht⟩ : ∃ t, Hid (decide (A1.lt B1) = t) := ⟨_, rfl⟩
          refine wp_region_calm (fun w1 => Own w0 w1 (blk g (.cells #[qA, qB, qC, qE, .slice (some ⟨b, 0, none⟩) n c, .int .i64 (k : Int)] 54) :: slc 73 4 (.slice (some ⟨b, 0, none⟩) n c) n (rows icell M) :: ps2)) 22 (by kernel_rfl) (by kernel_rfl) H.drew ?_
          simp only [List.take_succ_cons, List.take_zero, List.drop_succ_cons, List.drop_zero]
          repeat
            first
            | (refine calm_value (v := ?_) (by decide) rfl (fun σ w1 hS => ?_) ?_
               rotate_left
               · have c0 := hS.cells; obtain ⟨c1, c2, c3, c3'⟩ := it_cells hS.swap.rd HA1.out; obtain ⟨c4, c5, c6, c6'⟩ := it_cells hS.swap.rd HB1.out
                 first | (go_simp; rfl) | rfl
               simp only [Act.put, List.setIfInBounds_toArray, List.set_cons_zero, List.set_cons_succ])
            | (refine calm_skip (by decide) rfl ?_
               simp only [Act.put, List.setIfInBounds_toArray, List.set_cons_zero, List.set_cons_succ])
          refine calm_call (v := .bool t) (by decide) rfl (fun w1 => (by go_simp; first | exact ⟨rfl, rfl⟩ | rfl)) (fun σ w1 hS => ?_) ?_
          · refine (ahead_any A1 B1 w1).mono ?_
            rintro e w2 ⟨_, rfl, rfl, h2⟩
            exact ⟨by rw [ht.out], hS.join h2⟩
          simp only [Act.put, List.setIfInBounds_toArray, List.set_cons_zero, List.set_cons_succ]
          repeat
            first
            | (refine calm_value (v := ?_) (by decide) rfl (fun σ w1 hS => ?_) ?_
               rotate_left
               · skip
                 first | (go_simp; rfl) | rfl
               simp only [Act.put, List.setIfInBounds_toArray, List.set_cons_zero, List.set_cons_succ])
            | (refine calm_skip (by decide) rfl ?_
               simp only [Act.put, List.setIfInBounds_toArray, List.set_cons_zero, List.set_cons_succ])
          refine calm_nil ?_
          intro wd HD
          clear H
          have hone : ∀ d, 0 < d → par d = i → d = c1 ∨ d = d1 := fun d hd hdp => by have := hc1'.out; have := hd1.out; unfold par at hdp; omega
          have HO := Lib.hid hone
          clear hone
          cases t with
          | true =>
            have hq : Hid (0 < d1 ∧ par d1 = i ∧ ∀ d, 0 < d → d < n → par d = i → ¬ (fn M d).lt (fn M d1)) := Lib.hid ⟨by omega, by have := hc1'.out; have := hd1.out; unfold par; omega, fun d hd _ hdp => by
              have h1 : A1.lt B1 := by simpa using ht.out
              rcases HO.out d hd hdp with rfl | rfl
              · rw [hA1.out, hB1.out]; exact It.asymm h1
              · exact It.irr _⟩
            go_wp2
            go_meet
            exact ⟨true, rfl, hdn, hq, HD⟩
          | false =>
            have hq : Hid (0 < c1 ∧ par c1 = i ∧ ∀ d, 0 < d → d < n → par d = i → ¬ (fn M d).lt (fn M c1)) := Lib.hid ⟨by have := hc1'.out; omega, by have := hc1'.out; unfold par; omega, fun d hd _ hdp => by
              have h1 : ¬ A1.lt B1 := by simpa using ht.out
              rcases HO.out d hd hdp with rfl | rfl
              · exact It.irr _
              · rw [hA1.out, hB1.out]; exact h1⟩
            go_wp2
            go_meet
            exact ⟨false, rfl, hcn, hq, HD⟩
        · have hdnI : (n : Int) ≤ (d1 : Int) := by omega
          have hdnN : n ≤ d1 := by omega
          have hdnB : decide ((d1 : Int) < (n : Int)) = false := by simp; omega
          have hdnB2 : decide (d1 < n) = false := by simp; omega
          refine wp_region_calm (fun w1 => Own w0 w1 (blk g (.cells #[qA, qB, qC, qE, .slice (some ⟨b, 0, none⟩) n c, .int .i64 (k : Int)] 54) :: slc 73 4 (.slice (some ⟨b, 0, none⟩) n c) n (rows icell M) :: ps2)) 22 (by kernel_rfl) (by kernel_rfl) H.drew ?_
          simp only [List.take_succ_cons, List.take_zero, List.drop_succ_cons, List.drop_zero]
          repeat
            first
            | (refine calm_value (v := ?_) (by decide) rfl (fun σ w1 hS => ?_) ?_
               rotate_left
               · have c0 := hS.cells
                 first | (go_simp; rfl) | rfl
               simp only [Act.put, List.setIfInBounds_toArray, List.set_cons_zero, List.set_cons_succ])
            | (refine calm_skip (by decide) rfl ?_
               simp only [Act.put, List.setIfInBounds_toArray, List.set_cons_zero, List.set_cons_succ])
          refine calm_nil ?_
          intro wd HD
          clear H
          have hq : Hid (0 < c1 ∧ par c1 = i ∧ ∀ d, 0 < d → d < n → par d = i → ¬ (fn M d).lt (fn M c1)) := Lib.hid ⟨by have := hc1'.out; omega, by have := hc1'.out; unfold par; omega, fun d hd hdn2 hdp => by
            have : d = c1 := by have := hc1'.out; have := hd1.out; unfold par at hdp; omega
            subst this
            exact It.irr _⟩
          go_wp2
          go_meet
          exact ⟨false, rfl, hcn, hq, HD⟩
      case rest =>
        clear H
        obtain ⟨t, rfl, hqn, hq, H⟩ := hcut
        obtain ⟨q, hqe⟩ : ∃ q, Hid ((if t then d1 else c1) = q) := ⟨_, Lib.hid rfl⟩
        rw [hqe.out] at hqn hq
        go_upto_if 96 with (fail)
        go_cut [10] (fun s10 wx => s10 = .int .i64 q ∧ Own w0 wx (blk g (.cells #[qA, qB, qC, qE, .slice (some ⟨b, 0, none⟩) n c, .int .i64 (k : Int)] 54) :: slc 73 4 (.slice (some ⟨b, 0, none⟩) n c) n (rows icell M) :: ps2))
        case first =>
          cases t with
          | true =>
            obtain rfl : d1 = q := hqe.out
            go_wp2
            go_meet
            exact ⟨rfl, H⟩
          | false =>
            obtain rfl : c1 = q := hqe.out
            go_wp2
            go_meet
            exact ⟨rfl, H⟩
        case rest =>
          clear H
          obtain ⟨rfl, H⟩ := hcut
          have hiI : (i : Int) < (n : Int) := by have := hc1'.out; omega
          have hqI : (q : Int) < (n : Int) := by omega
          have hin : i < n := by omega
          clear HB1 hB1 hdi hwd hd1 hcn hcnI hqe
          have ha := get_fn (m := M) (i := q) (by rw [hML.out]; omega)
          have hb := get_fn (m := M) (i := i) (by rw [hML.out]; omega)
          obtain ⟨A, hA⟩ : ∃ A, Hid (fn M q = A) := ⟨_, rfl⟩
          obtain ⟨B, hB⟩ : ∃ B, Hid (fn M i = B) := ⟨_, rfl⟩
          rw [hA.out] at ha
          rw [hB.out] at hb
          have HA := Lib.hid ha
          have HB := Lib.hid hb
          clear ha hb
          obtain ⟨t, ht⟩ : ∃ t, Hid (decide (A.lt B) = t) := ⟨_, rfl⟩
          go_upto_region 14 with (fail)
          refine wp_region_calm (fun w1 => Own w0 w1 (blk g (.cells #[qA, qB, qC, qE, .slice (some ⟨b, 0, none⟩) n c, .int .i64 (k : Int)] 54) :: slc 73 4 (.slice (some ⟨b, 0, none⟩) n c) n (rows icell M) :: ps2)) 16 (by kernel_rfl) (by kernel_rfl) H.drew ?_
          simp only [List.take_succ_cons, List.take_zero, List.drop_succ_cons, List.drop_zero]
          repeat
            first
            | (refine calm_value (v := ?_) (by decide) rfl (fun σ w1 hS => ?_) ?_
               rotate_left
               · have c0 := hS.cells; obtain ⟨c1, c2, c3, c3'⟩ := it_cells hS.swap.rd HA.out; obtain ⟨c4, c5, c6, c6'⟩ := it_cells hS.swap.rd HB.out
                 first | (go_simp; rfl) | rfl
               simp only [Act.put, List.setIfInBounds_toArray, List.set_cons_zero, List.set_cons_succ])
            | (refine calm_skip (by decide) rfl ?_
               simp only [Act.put, List.setIfInBounds_toArray, List.set_cons_zero, List.set_cons_succ])
          refine calm_call (v := .bool t) (by decide) rfl (fun w1 => (by go_simp; first | exact ⟨rfl, rfl⟩ | rfl)) (fun σ w1 hS => ?_) ?_
          · refine (ahead_any A B w1).mono ?_
            rintro e w2 ⟨_, rfl, rfl, h2⟩
            exact ⟨by rw [ht.out], hS.join h2⟩
          simp only [Act.put, List.setIfInBounds_toArray, List.set_cons_zero, List.set_cons_succ]
          repeat
            first
            | (refine calm_value (v := ?_) (by decide) rfl (fun σ w1 hS => ?_) ?_
               rotate_left
               · skip
                 first | (go_simp; rfl) | rfl
               simp only [Act.put, List.setIfInBounds_toArray, List.set_cons_zero, List.set_cons_succ])
            | (refine calm_skip (by decide) rfl ?_
               simp only [Act.put, List.setIfInBounds_toArray, List.set_cons_zero, List.set_cons_succ])
          refine calm_nil ?_
          intro wd HD
          clear H
          cases t with
          | true =>
            have hlt : A.lt B := by simpa using ht.out
            go_upto_region 15 with (fail)
            refine wp_region_pres (fun _ => (fun w1 => Own w0 w1 (blk g (.cells #[qA, qB, qC, qE, .slice (some ⟨b, 0, none⟩) n c, .int .i64 (k : Int)] 54) :: slc 73 4 (.slice (some ⟨b, 0, none⟩) n c) n (rows icell M) :: ps2))) 24 [] [9] (by kernel_rfl) (by kernel_rfl) (by kernel_rfl) (by kernel_rfl) (fun _ _ d _ _ h => by cases d <;> exact h) ⟨_, _, rfl, fun w => (by first | rfl | (go_simp; rfl)), rfl⟩ HD.drew ?_
            simp only [List.take_succ_cons, List.take_zero, List.drop_succ_cons, List.drop_zero]
            repeat
              first
              | (refine calm_value (v := ?_) (by decide) rfl (fun σ w1 hS => ?_) ?_
                 rotate_left
                 · have c0 := hS.cells; obtain ⟨c1, c2, c3, c3'⟩ := it_cells hS.swap.rd HA.out; obtain ⟨c4, c5, c6, c6'⟩ := it_cells hS.swap.rd HB.out
                   first | (go_simp; rfl) | rfl
                 simp only [Act.put, List.setIfInBounds_toArray, List.set_cons_zero, List.set_cons_succ])
              | (refine calm_skip (by decide) rfl ?_
                 simp only [Act.put, List.setIfInBounds_toArray, List.set_cons_zero, List.set_cons_succ])
            refine calm_nil ?_
            intro σ2 wd2 _ H
            simp only [putNew, List.foldl_nil]
            clear HD
            have hset1 : (rows icell M).take (i * 4) ++ icell A ++ (rows icell M).drop (i * 4 + 4) = rows icell (M.set i A) := (rows_set icell icell_length (by rw [hML.out]; omega) A).symm
            have hset2 : (rows icell (M.set i A)).take (q * 4) ++ icell B ++ (rows icell (M.set i A)).drop (q * 4 + 4) = rows icell (swapL M i q) := by
              rw [← rows_set icell icell_length (by rw [List.length_set, hML.out]; omega) B]
              unfold swapL
              rw [hA.out, hB.out]
            have HS1 := Lib.hid hset1
            have HS2 := Lib.hid hset2
            clear hset1 hset2
            have hiq : i < q := by have := hq.out.2.1; have := hq.out.1; unfold par at *; omega
            have hsl : Hid ((swapL M i q).length = n) := Lib.hid (by rw [swapL_length, hML.out])
            have hsu : Hid (DnF (fn (swapL M i q)) n q) := Lib.hid (by
              rw [fn_swapL (by rw [hML.out]; omega) (by rw [hML.out]; omega) (by omega)]
              exact dn_step hD.out hq.out.1 hqn hq.out.2.1 hq.out.2.2 (by rw [hA.out, hB.out]; exact hlt))
            have hsp : Hid ((swapL M i q).Perm M0) := Lib.hid ((swapL_perm (by rw [hML.out]; omega) (by rw [hML.out]; omega)).trans hP.out)
            generalize swapL M i q = M2 at *
            clear hlt ht
            go_wp2_with (first
              | (refine wpList_store_elem rfl _ _ rfl (i := i) rfl H.swap (icell A) rfl (by kernel_rfl) rfl (by omega) (icell_one A) ?_; clear H; intro w5 H; rw [HS1.out] at H)
              | (refine wpList_store_elem rfl _ _ rfl (i := q) rfl H (icell B) rfl (by kernel_rfl) rfl (by omega) (icell_one B) ?_; clear H; intro w6 H; rw [HS2.out] at H))
            go_roundw
            case rel => exact ⟨q, M2, rfl, by omega, hsl, hsu, hsp, H.swap⟩
            case measure => simp [intOf]; omega
          | false =>
            have hlt : ¬ A.lt B := by simpa using ht.out
            have hfin : Hid (Heap M) := Lib.hid (by
              unfold Heap
              rw [hML.out]
              exact dn_done hD.out (.inr ⟨q, by rw [hA.out, hB.out]; exact hlt, hq.out.2.2⟩))
            clear hlt
            rw [← hps2.out] at HD
            have c0 := HD.cells
            have c7 := (HD.front 2 rfl).cells
            go_wp2_with (refine wpList_store_agg (vs := [.int .i64 a.x.1, .string a.x.2]) rfl _ _ rfl rfl (HD.front 3 rfl) rfl (by kernel_rfl) (by simp) (by simp [Value.oneCell']) rfl ?_; clear HD c0 c7; intro wq HQ)
            refine bodyPost_ret (results_cell_tmp_row rfl _ _ b4 _ _ _ _ rfl HQ.block.1 Try.underlying61 rfl (by kernel_rfl)) rfl ?_
            exact ⟨_, rfl, rfl, M, hfin.out, (List.Perm.cons _ hP.out).trans hpm2.out, (HEND.out M _ _ hML.out HQ.drop).swap.drop⟩
    · have hlt2 : (n : Int) ≤ 2 * (i : Int) + 1 := by omega
      have hfin : Hid (Heap M) := Lib.hid (by
        unfold Heap
        rw [hML.out]
        exact dn_done hD.out (.inl fun d hd hdn hdp => by unfold par at hdp; omega))
      clear hlt
      rw [← hps2.out] at H
      have c0 := H.cells
      have c7 := (H.front 2 rfl).cells
      go_wp2_with (refine wpList_store_agg (vs := [.int .i64 a.x.1, .string a.x.2]) rfl _ _ rfl rfl (H.front 3 rfl) rfl (by kernel_rfl) (by simp) (by simp [Value.oneCell']) rfl ?_; clear H c0 c7; intro wq HQ)
      refine bodyPost_ret (results_cell_tmp_row rfl _ _ b4 _ _ _ _ rfl HQ.block.1 Try.underlying61 rfl (by kernel_rfl)) rfl ?_
      exact ⟨_, rfl, rfl, M, hfin.out, (List.Perm.cons _ hP.out).trans hpm2.out, (HEND.out M _ _ hML.out HQ.drop).swap.drop⟩
end DueP
end Go.Proofs.Ytnpflnplpipipaa
