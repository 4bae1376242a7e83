/-
  Bits: the walks of the document's writer (sledgeref06).
-/
import Derived.Test.YtbooacglmeoceaaBitsW3
namespace Go.Proofs.Ytbooacglmeoceaa
open Go.RowKit

def intBits (bs : List Bool) : List Value := bs.map fun b => .int .i64 (bi b)
theorem intBits_append (bs : List Bool) (b : Bool) : intBits (bs ++ [b]) = intBits bs ++ [.int .i64 (bi b)] := by simp [intBits]
/-- The document's writer of these bits, behind the pointer ⟨g, 0⟩. -/
def RWtr (g : Nat) (bs : List Bool) : Piece := ex fun v => star (blk g (.cells #[v] 29)) (slc 3 1 v bs.length (intBits bs))
theorem Own.rwtr {w0 w : World} {ps : List Piece} {g : Nat} {bs : List Bool} (H : Own w0 w (RWtr g bs :: ps)) :
    ∃ a c, bs.length ≤ c ∧ c ≤ 9223372036854775807 ∧ Own w0 w (blk g (.cells #[.slice a bs.length c] 29) :: slc 3 1 (.slice a bs.length c) bs.length (intBits bs) :: ps) := by
  obtain ⟨v, H⟩ := H.ex
  replace H := H.star
  obtain ⟨a, c, rfl, h1, h2⟩ := (H.front 1 rfl).rd.shape
  exact ⟨a, c, h1, h2, H⟩
theorem Own.unrwtr {w0 w : World} {ps : List Piece} {g : Nat} {bs : List Bool} {v : Value} {m : Nat} {xs : List Value} (H : Own w0 w (blk g (.cells #[v] 29) :: slc 3 1 v m xs :: ps)) (hm : m = bs.length) (hx : xs = intBits bs) : Own w0 w (RWtr g bs :: ps) := by
  subst hm hx
  exact H.unstar.unex v
theorem intInfo : (Try.prog.info? 3).map (fun i => (i.zero, i.size, i.bytes)) = some (some (.int .i64 0), 1, 8) := by kernel_rfl

theorem rcut_any (n : Int) (w : World) : Calls Try.prog 33 #[.int .i64 n] w fun e w' => e = .returned (.int .i64 (cut n)) ∧ w' = w := by
  go_enter Try.func33, Try.ntmps33
  go_wp2
  all_goals go_ret
  all_goals exact ⟨ret_int (by unfold cut; omega), rfl⟩

set_option maxHeartbeats 400000 in
theorem rput_any {w0 w : World} {ps : List Piece} {g : Nat} {bs : List Bool} (v n : Int) (hv : -9223372036854775808 ≤ v ∧ v ≤ 9223372036854775807) (H : Own w0 w (RWtr g bs :: ps)) (hl : bs.length ≤ 8796093022000) :
    Calls Try.prog 28 #[.pointer (some ⟨g, 0, none⟩), .int .i64 v, .int .i64 n] w (Ret fun _ w' => Own w0 w' (RWtr g (bs ++ bitsOf v (cut n)) :: ps)) := by
  obtain ⟨hv1, hv2⟩ := hv
  obtain ⟨m, hm, hm62⟩ : ∃ m : Nat, Hid (cut n = m) ∧ m ≤ 62 := ⟨_, Lib.hid rfl, by unfold cut; omega⟩
  go_enter Try.func28, Try.ntmps28
  go_wp2_with fail
  go_loopw [6] (fun i wx => ∃ k : Nat, k ≤ m ∧ i = .int .i64 k ∧ Own w0 wx (RWtr g (bs ++ bitsOf v k) :: ps)) (fun i _ => m - (intOf i).toNat)
  case atStart => exact ⟨0, Nat.zero_le _, rfl, by simpa [bitsOf] using H⟩
  case round =>
    clear H
    obtain ⟨k, hk, rfl, H⟩ := hrel
    go_wp2_with fail
    refine (rcut_any n wr).mono ?_
    rintro e _ ⟨rfl, rfl⟩
    rw [hm.out]
    by_cases hlt : k < m
    · obtain ⟨b, hbb⟩ : ∃ b, Hid (bitOf v k = b) := ⟨_, rfl⟩
      have hbit : bits .and .i64 (v / 2 ^ k) 1 = bi b := by rw [i64_and1, ← hbb.out, bi_bitOf]
      obtain ⟨N, hN⟩ : ∃ N, Hid ((bs ++ bitsOf v k).length = N) := ⟨_, rfl⟩
      have hN1 : N ≤ 8796093022062 := by rw [← hN.out]; simp [bitsOf_length]; omega
      obtain ⟨a, c, hc1, hc2, H⟩ := H.rwtr
      rw [hN.out] at H hc1
      go_upto_region 3 with (fail)
      refine wp_region_pre (fun σ w1 => Own w0 w1 (newR (.cells #[.int .i64 (bi b)] 3) 1 (σ 9) ++ (blk g (.cells #[.slice a N c] 29) :: slc 3 1 (.slice a N c) N (intBits (bs ++ bitsOf v k)) :: ps))) 10 [9] 0 (.pointer (some ⟨g, 0, none⟩)) _ rfl (by kernel_rfl) (by kernel_rfl) (by kernel_rfl) (by kernel_rfl) (fun _ _ _ h => h) (fun w => by first | rfl | (go_simp; rfl)) H.drew ?_
      simp only [List.take_succ_cons, List.take_zero, List.drop_succ_cons, List.drop_zero]
      repeat
        refine calm_value (v := ?_) (by decide) rfl (fun σ w1 hS => ?_) ?_; rotate_left
        · have c0 := hS.skip.cells
          first | (go_simp; rfl) | rfl
        simp only [Act.put, List.setIfInBounds_toArray, List.set_cons_zero, List.set_cons_succ]
      refine calm_row (by decide) (fun w1 => (by go_simp)) ?_
      refine calm_nil ?_
      intro σ wd hσ HD
      obtain ⟨vn, hvn⟩ := Option.isSome_iff_exists.1 (hσ 9 (by decide))
      rw [hvn] at HD
      obtain ⟨g2, rfl, HN⟩ := HD.newr
      clear HD H
      simp only [putNew, List.foldl_cons, List.foldl_nil, hvn]
      simp only [Act.put, List.setIfInBounds_toArray, List.set_cons_zero, List.set_cons_succ, List.getElem?_cons_succ, List.getElem?_cons_zero, Option.bind_some, Option.getD_some]
      have hrow := (HN.slc_mk (xs := [.int .i64 (bi b)]) (n := 1) (size := 1) rfl (Nat.le_refl _) (by decide) rfl rfl).rd
      have H := HN.drop
      clear HN
      go_wp2_with (first
        | (at_builtin; refine wpList_append_sep rfl _ _ rfl Try.underlying27 intInfo rfl (by decide) rfl H.swap hrow (by simp [Value.oneCell']) (by omega) (by omega) ?_; clear H hrow; intro v' w' H; replace H := H.swap; obtain ⟨a', c', rfl, h1', h2'⟩ := (H.front 1 rfl).rd.shape)
        | (refine wpList_store_slice rfl _ _ rfl rfl H rfl (by kernel_rfl) (by simp) ?_; clear H; intro w2 H))
      go_roundw
      case rel => exact ⟨k + 1, by omega, by go_num, by rw [bitsOf_succ, ← List.append_assoc, hbb.out]; exact H.unrwtr (by rw [List.length_append, hN.out]; rfl) (by rw [intBits_append])⟩
      case measure => simp [intOf]; omega
    · obtain rfl : k = m := by omega
      go_wp2
      go_end0
      rw [hm.out]
      exact ⟨_, rfl, H⟩
set_option maxHeartbeats 400000 in
theorem rcode_any {w0 w : World} {ps : List Piece} {g : Nat} {bs : List Bool} (v n : Int) (hv : -9223372036854775808 ≤ v ∧ v ≤ 9223372036854775807) (H : Own w0 w (RWtr g bs :: ps)) (hl : bs.length ≤ 8796093022000) :
    Calls Try.prog 29 #[.pointer (some ⟨g, 0, none⟩), .int .i64 v, .int .i64 n] w (Ret fun _ w' => Own w0 w' (RWtr g (bs ++ (bitsOf v (cut n)).reverse) :: ps)) := by
  obtain ⟨hv1, hv2⟩ := hv
  obtain ⟨m, hm, hm62⟩ : ∃ m : Nat, Hid (cut n = m) ∧ m ≤ 62 := ⟨_, Lib.hid rfl, by unfold cut; omega⟩
  go_enter Try.func29, Try.ntmps29
  go_wp2_with fail
  refine (rcut_any n w).mono ?_
  rintro e _ ⟨rfl, rfl⟩
  rw [hm.out]
  go_wp2_with fail
  go_loopw [6] (fun i wx => ∃ k : Nat, ∃ d : Int, k ≤ m ∧ i = .int .i64 d ∧ Hid (d = (m : Int) - 1 - k) ∧ Own w0 wx (RWtr g (bs ++ (bitsOf v m).reverse.take k) :: ps)) (fun i _ => (intOf i + 1).toNat)
  case atStart => exact ⟨0, _, Nat.zero_le _, rfl, Lib.hid (by omega), by simpa using H⟩
  case round =>
    clear H
    obtain ⟨k, d, hk, rfl, hd, H⟩ := hrel
    by_cases hlt : k < m
    · obtain ⟨j, hj⟩ : ∃ j, Hid (m - 1 - k = j) := ⟨_, rfl⟩
      obtain rfl : d = (j : Int) := by have := hd.out; have := hj.out; omega
      have hj62 : j < 62 := by have := hj.out; omega
      obtain ⟨b, hbb⟩ : ∃ b, Hid (bitOf v j = b) := ⟨_, rfl⟩
      have hbit : bits .and .i64 (v / 2 ^ j) 1 = bi b := by rw [i64_and1, ← hbb.out, bi_bitOf]
      obtain ⟨N, hN⟩ : ∃ N, Hid ((bs ++ (bitsOf v m).reverse.take k).length = N) := ⟨_, rfl⟩
      have hN1 : N ≤ 8796093022062 := by rw [← hN.out]; simp [bitsOf_length]; omega
      obtain ⟨a, c, hc1, hc2, H⟩ := H.rwtr
      rw [hN.out] at H hc1
      go_upto_region 3 with (fail)
      refine wp_region_pre (fun σ w1 => Own w0 w1 (newR (.cells #[.int .i64 (bi b)] 3) 1 (σ 9) ++ (blk g (.cells #[.slice a N c] 29) :: slc 3 1 (.slice a N c) N (intBits (bs ++ (bitsOf v m).reverse.take k)) :: ps))) 10 [9] 0 (.pointer (some ⟨g, 0, none⟩)) _ rfl (by kernel_rfl) (by kernel_rfl) (by kernel_rfl) (by kernel_rfl) (fun _ _ _ h => h) (fun w => by first | rfl | (go_simp; rfl)) H.drew ?_
      simp only [List.take_succ_cons, List.take_zero, List.drop_succ_cons, List.drop_zero]
      repeat
        refine calm_value (v := ?_) (by decide) rfl (fun σ w1 hS => ?_) ?_; rotate_left
        · have c0 := hS.skip.cells
          first | (go_simp; rfl) | rfl
        simp only [Act.put, List.setIfInBounds_toArray, List.set_cons_zero, List.set_cons_succ]
      refine calm_row (by decide) (fun w1 => (by go_simp)) ?_
      refine calm_nil ?_
      intro σ wd hσ HD
      obtain ⟨vn, hvn⟩ := Option.isSome_iff_exists.1 (hσ 9 (by decide))
      rw [hvn] at HD
      obtain ⟨g2, rfl, HN⟩ := HD.newr
      clear HD H
      simp only [putNew, List.foldl_cons, List.foldl_nil, hvn]
      simp only [Act.put, List.setIfInBounds_toArray, List.set_cons_zero, List.set_cons_succ, List.getElem?_cons_succ, List.getElem?_cons_zero, Option.bind_some, Option.getD_some]
      have hrow := (HN.slc_mk (xs := [.int .i64 (bi b)]) (n := 1) (size := 1) rfl (Nat.le_refl _) (by decide) rfl rfl).rd
      have H := HN.drop
      clear HN
      go_wp2_with (first
        | (at_builtin; refine wpList_append_sep rfl _ _ rfl Try.underlying27 intInfo rfl (by decide) rfl H.swap hrow (by simp [Value.oneCell']) (by omega) (by omega) ?_; clear H hrow; intro v' w' H; replace H := H.swap; obtain ⟨a', c', rfl, h1', h2'⟩ := (H.front 1 rfl).rd.shape)
        | (refine wpList_store_slice rfl _ _ rfl rfl H rfl (by kernel_rfl) (by simp) ?_; clear H; intro w2 H))
      go_roundw
      case rel => exact ⟨k + 1, _, by omega, rfl, Lib.hid (by have := hd.out; omega), by rw [codeBits_take v m k hlt, ← List.append_assoc, hj.out, hbb.out]; exact H.unrwtr (by rw [List.length_append, hN.out]; rfl) (by rw [intBits_append])⟩
      case measure => simp [intOf]
    · have hd0 : d < 0 := by have := hd.out; omega
      obtain rfl : k = m := by omega
      rw [List.take_of_length_le (by simp [bitsOf_length])] at H
      go_wp2
      go_end0
      rw [hm.out]
      exact ⟨_, rfl, H⟩

set_option maxHeartbeats 400000 in
theorem ralign_any {w0 w : World} {ps : List Piece} {g : Nat} {bs : List Bool} (H : Own w0 w (RWtr g bs :: ps)) (hl : bs.length ≤ 8796093022000) :
    Calls Try.prog 30 #[.pointer (some ⟨g, 0, none⟩)] w (Ret fun _ w' => Own w0 w' (RWtr g (aligned bs) :: ps)) := by
  obtain ⟨m, hm⟩ : ∃ m, Hid (padN bs.length = m) := ⟨_, rfl⟩
  have hm8 : m < 8 ∧ (bs.length + m) % 8 = 0 := by rw [← hm.out]; unfold padN; omega
  obtain ⟨hm8, hmm⟩ := hm8
  have hmm := Lib.hid hmm
  go_enter Try.func30, Try.ntmps30
  go_wp2_with fail
  go_loopw [2] (fun _ wx => ∃ k : Nat, k ≤ m ∧ Own w0 wx (RWtr g (bs ++ List.replicate k false) :: ps)) (fun _ wx => bs.length + m - sliceLen ((wx.cell? ⟨g, 0, none⟩).getD undef))
  case atStart => exact ⟨0, Nat.zero_le _, by simpa using H⟩
  case round =>
    clear H
    obtain ⟨k, hk, H⟩ := hrel
    obtain ⟨N, hN⟩ : ∃ N, Hid ((bs ++ List.replicate k false).length = N) := ⟨_, rfl⟩
    have hN1 : Hid (N = bs.length + k) := Lib.hid (by rw [← hN.out]; simp)
    have hN2 : N ≤ 8796093022100 := by have := hN1.out; omega
    obtain ⟨a, c, hc1, hc2, H⟩ := H.rwtr
    rw [hN.out] at H hc1
    have c0 := H.cells
    have hm0 : Hid (sliceLen ((wr.cell? ⟨g, 0, none⟩).getD undef) = N) := Lib.hid (by rw [c0]; rfl)
    by_cases hlt : k < m
    · have hr : ((N : Int) % 8 == 0) = false := by have := hN1.out; have := hmm.out; simp; omega
      have hr2 : ((N : Int).tmod 8 == 0) = false := by rw [Int.tmod_eq_emod_of_nonneg (by omega)]; exact hr
      go_wp2_with (first
        | (at_builtin; refine wpList_append_one rfl _ _ rfl Try.underlying27 intInfo rfl (by decide) rfl H.swap rfl rfl rfl (by simp [Value.oneCell']) (by omega) (by omega) ?_; clear H c0; intro v' w' H; replace H := H.swap; obtain ⟨a', c', rfl, h1', h2'⟩ := (H.front 1 rfl).rd.shape)
        | (refine wpList_store_slice rfl _ _ rfl rfl H rfl (by kernel_rfl) (by simp) ?_; clear H; intro w2 H))
      have c0 := H.cells
      simp only [Act.put]
      go_roundw
      case rel => exact ⟨k + 1, by omega, by rw [List.replicate_succ', ← List.append_assoc]; exact H.unrwtr (by rw [List.length_append, hN.out]; rfl) (by rw [intBits_append]; rfl)⟩
      case measure =>
        rw [hm0.out, c0]
        have := hN1.out
        simp [sliceLen]
        omega
    · obtain rfl : k = m := by omega
      have hr : (N : Int) % 8 = 0 := by have := hN1.out; have := hmm.out; omega
      have hr2 : (N : Int).tmod 8 = 0 := by rw [Int.tmod_eq_emod_of_nonneg (by omega)]; exact hr
      go_wp2
      go_end0
      refine ⟨_, rfl, ?_⟩
      unfold aligned
      rw [hm.out]
      exact H.unrwtr (by rw [hN.out]) rfl

theorem bitsOfNums_snoc (ns : List Int) (n : Int) : bitsOfNums (ns ++ [n]) = bitsOfNums ns ++ bitsOf n 8 := by simp [bitsOfNums]

set_option maxHeartbeats 400000 in
theorem rtext_any {w0 w : World} {ps : List Piece} {g : Nat} {bs : List Bool} (s : ByteArray) (hs : s.size ≤ 100000000000) (H : Own w0 w (RWtr g bs :: ps)) (hl : bs.length ≤ 100000000000) :
    Calls Try.prog 31 #[.pointer (some ⟨g, 0, none⟩), .string s] w (Ret fun _ w' => Own w0 w' (RWtr g (aligned bs ++ textBits s) :: ps)) := by
  have hal : (aligned bs).length ≤ 100000000007 := by rw [aligned_length]; unfold nbytes; omega
  go_enter Try.func31, Try.ntmps31
  go_wp2_with fail
  refine (ralign_any H (by omega)).mono ?_
  rintro e w1 ⟨_, rfl, H1⟩
  clear H
  go_wp2_with fail
  go_loopw [4] (fun i wx => ∃ k : Nat, k ≤ s.size ∧ i = .int .i64 k ∧ Own w0 wx (RWtr g (aligned bs ++ bitsOfNums ((byteNums s).take k)) :: ps)) (fun i _ => s.size - (intOf i).toNat)
  case atStart => exact ⟨0, Nat.zero_le _, rfl, by simpa [bitsOfNums] using H1⟩
  case round =>
    clear H1
    obtain ⟨k, hk, rfl, H⟩ := hrel
    by_cases hlt : k < s.size
    · have hbn : (byteNums s)[k]? = some ((s[k].toNat : Nat) : Int) := by
        have : k < s.data.size := hlt
        simp only [byteNums, List.getElem?_map, Array.getElem?_toList, Array.getElem?_eq_getElem this]
        rfl
      have hx8 := s[k].toNat_lt
      have hwx : wrap64 ((s[k].toNat : Nat) : Int) = ((s[k].toNat : Nat) : Int) := IntWalk.wrap64_in _ ⟨by omega, by omega⟩
      have hnext : bitsOfNums ((byteNums s).take (k + 1)) = bitsOfNums ((byteNums s).take k) ++ bitsOf ((s[k].toNat : Nat) : Int) 8 := by
        rw [List.take_add_one, hbn, Option.toList_some, bitsOfNums_snoc]
      go_wp2_with fail
      refine (rput_any _ 8 ⟨by omega, by omega⟩ H (by rw [List.length_append, bitsOfNums_length, List.length_take, byteNums_length]; omega)).mono ?_
      rintro e w2 ⟨_, rfl, H2⟩
      replace H : Own w0 w2 (RWtr g (aligned bs ++ bitsOfNums ((byteNums s).take (k + 1))) :: ps) := by
        rw [hnext, ← List.append_assoc]
        exact H2
      clear H2 hnext hbn hwx
      go_wp2
      go_roundw
      case rel => exact ⟨k + 1, by omega, by go_num, H⟩
      case measure => simp [intOf]; omega
    · obtain rfl : k = s.size := by omega
      go_wp2
      go_end0
      refine ⟨_, rfl, ?_⟩
      rw [List.take_of_length_le (by rw [byteNums_length]; omega)] at H
      exact H
end Go.Proofs.Ytbooacglmeoceaa
