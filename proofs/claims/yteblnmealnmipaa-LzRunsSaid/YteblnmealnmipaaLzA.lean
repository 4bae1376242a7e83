/-
  lz: the walks of the finder's parts that only look.
-/
import Derived.Test.YteblnmealnmipaaLzP
import Derived.Test.YteblnmealnmipaaLzK
import Derived.Test.YteblnmealnmipaaReg
import Derived.Deep.OwnRows
import Derived.Deep.DeepCutAuto
import Derived.Deep.CutBlock
import Derived.Deep.LoopGhost
import Derived.WalkLawsBesides
import Derived.WalkSpells
import Derived.BigQuiet
import Derived.Deep.QuietTactic
import Derived.Test.YteblnmealnmipaaRows
namespace Go.Proofs.Yteblnmealnmipaa
open Go.RowKit

theorem byt_is {s : ByteArray} {i : Nat} (h : i < s.size) : s[i] = byt s i := by
  unfold byt
  simp [Array.getD, h]
  rfl

set_option maxHeartbeats 1600000 in
theorem fkey_any {w0 w : World} {ps : List Piece} {g : Nat} {s : ByteArray} {m v : Value} {i : Nat} (H : Own w0 w (blk g (.cells #[.string s, m, v] 44) :: ps)) (hi : i + 3 ≤ s.size) (hs : s.size ≤ 1000000) :
    Calls Try.prog 20 #[.pointer (some ⟨g, 0, none⟩), .int .i64 i] w (Ret fun r w' => r = k3 (key3 s i) ∧ Own w0 w' (blk g (.cells #[.string s, m, v] 44) :: ps)) := by
  obtain ⟨j, hj⟩ : ∃ j, Hid (i + 1 = j) := ⟨_, rfl⟩
  obtain ⟨k, hk⟩ : ∃ k, Hid (i + 2 = k) := ⟨_, rfl⟩
  have h0 : i < s.size := by omega
  have h1 : j < s.size := by have := hj.out; omega
  have h2 : k < s.size := by have := hk.out; omega
  have hI1 : (i : Int) + 1 = (j : Int) := by have := hj.out; omega
  have hI2 : (i : Int) + 2 = (k : Int) := by have := hk.out; omega
  have hw1 : IntKind.i64.wrap (j : Int) = (j : Int) := IntWalk.i64_in _ ⟨by omega, by omega⟩
  have hw2 : IntKind.i64.wrap (k : Int) = (k : Int) := IntWalk.i64_in _ ⟨by omega, by omega⟩
  have e0 := byt_is h0
  have e1 := byt_is h1
  have e2 := byt_is h2
  have hk3 : Hid (k3 (key3 s i) = .agg #[.int .u8 (byt s i).toNat, .int .u8 (byt s j).toNat, .int .u8 (byt s k).toNat]) := Lib.hid (by rw [← hj.out, ← hk.out]; rfl)
  clear hi
  go_enter Try.func20, Try.ntmps20
  go_upto_region 1 with (fail)
  have H1 := H.alloc (.cells #[.int .u8 0, .int .u8 0, .int .u8 0] 49)
  clear H
  generalize hc : w.heap.size = c at *
  generalize w.alloc (.cells #[.int .u8 0, .int .u8 0, .int .u8 0] 49) = wa at *
  refine wp_region_calm (fun w1 => Own w0 w1 (blk c (.cells #[.int .u8 0, .int .u8 0, .int .u8 0] 49) :: blk g (.cells #[.string s, m, v] 44) :: ps)) 21 (by kernel_rfl) (by kernel_rfl) H1.drew ?_
  simp only [List.take_succ_cons, List.take_zero, List.drop_succ_cons, List.drop_zero]
  repeat
    first
    | (refine calm_value (v := ?_) (by decide) rfl (fun σ w1 hS => ?_) ?_
       rotate_left
       · have c0 := hS.swap.cells
         first | (go_simp; rfl) | rfl
       simp only [Act.put, List.setIfInBounds_toArray, List.set_cons_zero, List.set_cons_succ])
    | (refine calm_skip (by decide) rfl ?_
       simp only [Act.put, List.setIfInBounds_toArray, List.set_cons_zero, List.set_cons_succ])
  refine calm_nil ?_
  intro wd HD
  clear H1
  go_wp2_with (first
    | (refine wpList_store_agg rfl _ _ rfl rfl HD rfl (by kernel_rfl) (by simp) (by simp; exact ⟨rfl, rfl, rfl⟩) rfl ?_; clear HD; intro w5 H; have c0 := H.cells))
  refine bodyPost_ret (results_cell_row rfl _ _ c _ _ _ _ rfl H.block.1 Try.underlying49 rfl (by kernel_rfl)) rfl ?_
  exact ⟨_, rfl, by rw [hk3.out]; rfl, H.drop⟩

set_option maxHeartbeats 1600000 in
theorem fsame_any {w0 w : World} {ps : List Piece} {g : Nat} {s : ByteArray} {m v : Value} {x y : Nat} (H : Own w0 w (blk g (.cells #[.string s, m, v] 44) :: ps)) (hxy : x ≤ y) (hy : y ≤ s.size) (hs : s.size ≤ 1000000) :
    Calls Try.prog 21 #[.pointer (some ⟨g, 0, none⟩), .int .i64 x, .int .i64 y] w (Ret fun r w' => r = .int .i64 (comm s x y) ∧ Own w0 w' (blk g (.cells #[.string s, m, v] 44) :: ps)) := by
  go_enter Try.func21, Try.ntmps21
  go_wp2_with fail
  go_loopw [7] (fun s7 wr => ∃ n : Nat, s7 = .int .i64 n ∧ n ≤ 258 ∧ Hid (∀ j, j < n → y + j < s.size ∧ byt s (x + j) = byt s (y + j)) ∧ Own w0 wr (blk g (.cells #[.string s, m, v] 44) :: ps)) (fun s7 _ => 258 - (intOf s7).toNat)
  case atStart => exact ⟨0, by simp, by omega, Lib.hid (fun j hj => by omega), H⟩
  case round =>
    clear H
    obtain ⟨n, rfl, hn, hall, H⟩ := hrel
    by_cases h1 : n < 258
    · have h1I : (n : Int) < 258 := by omega
      obtain ⟨q, hq⟩ : ∃ q, Hid (y + n = q) := ⟨_, rfl⟩
      obtain ⟨p, hp⟩ : ∃ p, Hid (x + n = p) := ⟨_, rfl⟩
      have hqI : (y : Int) + (n : Int) = (q : Int) := by have := hq.out; omega
      have hpI : (x : Int) + (n : Int) = (p : Int) := by have := hp.out; omega
      have hqm : q ≤ 2000000 := by have := hq.out; omega
      have hpq : p ≤ q := by have := hq.out; have := hp.out; omega
      have hw1 : IntKind.i64.wrap (q : Int) = (q : Int) := IntWalk.i64_in _ ⟨by omega, by omega⟩
      have hw2 : IntKind.i64.wrap (p : Int) = (p : Int) := IntWalk.i64_in _ ⟨by omega, by omega⟩
      by_cases h2 : q < s.size
      · have h2I : (q : Int) < (s.size : Int) := by omega
        have h3 : p < s.size := by omega
        have e0 := byt_is h2
        have e1 := byt_is h3
        obtain ⟨t, ht⟩ : ∃ t, Hid (decide (byt s p = byt s q) = t) := ⟨_, rfl⟩
        have htI : (((byt s p).toNat : Int) == ((byt s q).toNat : Int)) = t := by
          rw [← ht.out]
          by_cases hb : byt s p = byt s q
          · simp [hb]
          · have : (byt s p).toNat ≠ (byt s q).toNat := fun h => hb (UInt8.toNat_inj.1 h)
            simp [hb]
            omega
        go_upto_region 2 with (fail)
        refine wp_region_calm (fun w1 => Own w0 w1 (blk g (.cells #[.string s, m, v] 44) :: ps)) 32 (by kernel_rfl) (by kernel_rfl) H.drew ?_
        simp only [List.take_succ_cons, List.take_zero, List.drop_succ_cons, List.drop_zero]
        repeat
          first
          | (refine calm_value (v := ?_) (by decide) rfl (fun σ w1 hS => ?_) ?_
             rotate_left
             · have c0 := hS.cells
               first | (go_simp; rfl) | rfl
             simp only [Act.put, List.setIfInBounds_toArray, List.set_cons_zero, List.set_cons_succ])
          | (refine calm_skip (by decide) rfl ?_
             simp only [Act.put, List.setIfInBounds_toArray, List.set_cons_zero, List.set_cons_succ])
        refine calm_nil ?_
        intro wd HD
        clear H
        cases t with
        | true =>
          have hb : byt s p = byt s q := by simpa using ht.out
          have hall' : Hid (∀ j, j < n + 1 → y + j < s.size ∧ byt s (x + j) = byt s (y + j)) := Lib.hid (by
            intro j hj
            by_cases hjn : j = n
            · subst hjn
              rw [hq.out, hp.out]
              exact ⟨h2, hb⟩
            · exact hall.out j (by omega))
          clear hb ht htI
          go_wp2
          go_roundw
          case rel => exact ⟨n + 1, by go_num, by omega, hall', HD⟩
          case measure => simp [intOf]; omega
        | false =>
          have hfin : Hid (comm s x y = n) := Lib.hid (comm_is (by omega) hall.out (.inr (by rw [hq.out, hp.out]; intro h; have := ht.out; simp at this; exact this h.2)))
          clear ht htI
          go_wp2
          go_ret
          exact ⟨_, rfl, by rw [hfin.out]; rfl, HD⟩
      · have h2I : ¬ (q : Int) < (s.size : Int) := by omega
        have hfin : Hid (comm s x y = n) := Lib.hid (comm_is (by omega) hall.out (.inr (by rw [hq.out]; intro h; exact h2 h.1)))
        go_upto_region 2 with (fail)
        refine wp_region_calm (fun w1 => Own w0 w1 (blk g (.cells #[.string s, m, v] 44) :: ps)) 32 (by kernel_rfl) (by kernel_rfl) H.drew ?_
        simp only [List.take_succ_cons, List.take_zero, List.drop_succ_cons, List.drop_zero]
        repeat
          first
          | (refine calm_value (v := ?_) (by decide) rfl (fun σ w1 hS => ?_) ?_
             rotate_left
             · have c0 := hS.cells
               first | (go_simp; rfl) | rfl
             simp only [Act.put, List.setIfInBounds_toArray, List.set_cons_zero, List.set_cons_succ])
          | (refine calm_skip (by decide) rfl ?_
             simp only [Act.put, List.setIfInBounds_toArray, List.set_cons_zero, List.set_cons_succ])
        refine calm_nil ?_
        intro wd HD
        clear H
        go_wp2
        go_ret
        exact ⟨_, rfl, by rw [hfin.out]; rfl, HD⟩
    · have h1I : ¬ (n : Int) < 258 := by omega
      have hfin : Hid (comm s x y = n) := Lib.hid (comm_is (by omega) hall.out (.inl (by omega)))
      go_upto_region 2 with (fail)
      refine wp_region_calm (fun w1 => Own w0 w1 (blk g (.cells #[.string s, m, v] 44) :: ps)) 32 (by kernel_rfl) (by kernel_rfl) H.drew ?_
      simp only [List.take_succ_cons, List.take_zero, List.drop_succ_cons, List.drop_zero]
      repeat
        first
        | (refine calm_value (v := ?_) (by decide) rfl (fun σ w1 hS => ?_) ?_
           rotate_left
           · have c0 := hS.cells
             first | (go_simp; rfl) | rfl
           simp only [Act.put, List.setIfInBounds_toArray, List.set_cons_zero, List.set_cons_succ])
        | (refine calm_skip (by decide) rfl ?_
           simp only [Act.put, List.setIfInBounds_toArray, List.set_cons_zero, List.set_cons_succ])
      refine calm_nil ?_
      intro wd HD
      clear H
      go_wp2
      go_ret
      exact ⟨_, rfl, by rw [hfin.out]; rfl, HD⟩

set_option maxHeartbeats 1600000 in
theorem common_any {w0 w : World} {ps : List Piece} {s : ByteArray} {x y : Nat} (H : Own w0 w ps) (hxy : x ≤ y) (hy : y ≤ s.size) (hs : s.size ≤ 1000000) :
    Calls Try.prog 18 #[.string s, .int .i64 x, .int .i64 y] w (Ret fun r w' => r = .int .i64 (comm s x y) ∧ Own w0 w' ps) := by
  go_enter Try.func18, Try.ntmps18
  go_wp2_with fail
  go_loopw [7] (fun s7 wr => ∃ n : Nat, s7 = .int .i64 n ∧ n ≤ 258 ∧ Hid (∀ j, j < n → y + j < s.size ∧ byt s (x + j) = byt s (y + j)) ∧ Own w0 wr ps) (fun s7 _ => 258 - (intOf s7).toNat)
  case atStart => exact ⟨0, by simp, by omega, Lib.hid (fun j hj => by omega), H⟩
  case round =>
    clear H
    obtain ⟨n, rfl, hn, hall, H⟩ := hrel
    by_cases h1 : n < 258
    · have h1I : (n : Int) < 258 := by omega
      obtain ⟨q, hq⟩ : ∃ q, Hid (y + n = q) := ⟨_, rfl⟩
      obtain ⟨p, hp⟩ : ∃ p, Hid (x + n = p) := ⟨_, rfl⟩
      have hqI : (y : Int) + (n : Int) = (q : Int) := by have := hq.out; omega
      have hpI : (x : Int) + (n : Int) = (p : Int) := by have := hp.out; omega
      have hqm : q ≤ 2000000 := by have := hq.out; omega
      have hpq : p ≤ q := by have := hq.out; have := hp.out; omega
      have hw1 : IntKind.i64.wrap (q : Int) = (q : Int) := IntWalk.i64_in _ ⟨by omega, by omega⟩
      have hw2 : IntKind.i64.wrap (p : Int) = (p : Int) := IntWalk.i64_in _ ⟨by omega, by omega⟩
      by_cases h2 : q < s.size
      · have h2I : (q : Int) < (s.size : Int) := by omega
        have h3 : p < s.size := by omega
        have e0 := byt_is h2
        have e1 := byt_is h3
        obtain ⟨t, ht⟩ : ∃ t, Hid (decide (byt s p = byt s q) = t) := ⟨_, rfl⟩
        have htI : (((byt s p).toNat : Int) == ((byt s q).toNat : Int)) = t := by
          rw [← ht.out]
          by_cases hb : byt s p = byt s q
          · simp [hb]
          · have : (byt s p).toNat ≠ (byt s q).toNat := fun h => hb (UInt8.toNat_inj.1 h)
            simp [hb]
            omega
        go_upto_region 2 with (fail)
        refine wp_region_calm (fun w1 => Own w0 w1 ps) 23 (by kernel_rfl) (by kernel_rfl) H.drew ?_
        simp only [List.take_succ_cons, List.take_zero, List.drop_succ_cons, List.drop_zero]
        repeat
          first
          | (refine calm_value (v := ?_) (by decide) rfl (fun σ w1 hS => ?_) ?_
             rotate_left
             · skip
               first | (go_simp; rfl) | rfl
             simp only [Act.put, List.setIfInBounds_toArray, List.set_cons_zero, List.set_cons_succ])
          | (refine calm_skip (by decide) rfl ?_
             simp only [Act.put, List.setIfInBounds_toArray, List.set_cons_zero, List.set_cons_succ])
        refine calm_nil ?_
        intro wd HD
        clear H
        cases t with
        | true =>
          have hb : byt s p = byt s q := by simpa using ht.out
          have hall' : Hid (∀ j, j < n + 1 → y + j < s.size ∧ byt s (x + j) = byt s (y + j)) := Lib.hid (by
            intro j hj
            by_cases hjn : j = n
            · subst hjn
              rw [hq.out, hp.out]
              exact ⟨h2, hb⟩
            · exact hall.out j (by omega))
          clear hb ht htI
          go_wp2
          go_roundw
          case rel => exact ⟨n + 1, by go_num, by omega, hall', HD⟩
          case measure => simp [intOf]; omega
        | false =>
          have hfin : Hid (comm s x y = n) := Lib.hid (comm_is (by omega) hall.out (.inr (by rw [hq.out, hp.out]; intro h; have := ht.out; simp at this; exact this h.2)))
          clear ht htI
          go_wp2
          go_ret
          exact ⟨_, rfl, by rw [hfin.out]; rfl, HD⟩
      · have h2I : ¬ (q : Int) < (s.size : Int) := by omega
        have hfin : Hid (comm s x y = n) := Lib.hid (comm_is (by omega) hall.out (.inr (by rw [hq.out]; intro h; exact h2 h.1)))
        go_upto_region 2 with (fail)
        refine wp_region_calm (fun w1 => Own w0 w1 ps) 23 (by kernel_rfl) (by kernel_rfl) H.drew ?_
        simp only [List.take_succ_cons, List.take_zero, List.drop_succ_cons, List.drop_zero]
        repeat
          first
          | (refine calm_value (v := ?_) (by decide) rfl (fun σ w1 hS => ?_) ?_
             rotate_left
             · skip
               first | (go_simp; rfl) | rfl
             simp only [Act.put, List.setIfInBounds_toArray, List.set_cons_zero, List.set_cons_succ])
          | (refine calm_skip (by decide) rfl ?_
             simp only [Act.put, List.setIfInBounds_toArray, List.set_cons_zero, List.set_cons_succ])
        refine calm_nil ?_
        intro wd HD
        clear H
        go_wp2
        go_ret
        exact ⟨_, rfl, by rw [hfin.out]; rfl, HD⟩
    · have h1I : ¬ (n : Int) < 258 := by omega
      have hfin : Hid (comm s x y = n) := Lib.hid (comm_is (by omega) hall.out (.inl (by omega)))
      go_upto_region 2 with (fail)
      refine wp_region_calm (fun w1 => Own w0 w1 ps) 23 (by kernel_rfl) (by kernel_rfl) H.drew ?_
      simp only [List.take_succ_cons, List.take_zero, List.drop_succ_cons, List.drop_zero]
      repeat
        first
        | (refine calm_value (v := ?_) (by decide) rfl (fun σ w1 hS => ?_) ?_
           rotate_left
           · skip
             first | (go_simp; rfl) | rfl
           simp only [Act.put, List.setIfInBounds_toArray, List.set_cons_zero, List.set_cons_succ])
        | (refine calm_skip (by decide) rfl ?_
           simp only [Act.put, List.setIfInBounds_toArray, List.set_cons_zero, List.set_cons_succ])
      refine calm_nil ?_
      intro wd HD
      clear H
      go_wp2
      go_ret
      exact ⟨_, rfl, by rw [hfin.out]; rfl, HD⟩
end Go.Proofs.Yteblnmealnmipaa
