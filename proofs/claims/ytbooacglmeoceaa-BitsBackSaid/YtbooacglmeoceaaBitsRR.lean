/-
  Bits: the walks of the document's reader.
-/
import Derived.Test.YtbooacglmeoceaaBitsRd2
namespace Go.Proofs.Ytbooacglmeoceaa
open Go.RowKit

/-- The document's reader of a text, n bits taken. -/
def RRdr (g : Nat) (s : ByteArray) (n : Nat) : Piece := blk g (.cells #[.string s, .int .i64 n] 45)

set_option maxHeartbeats 400000 in
theorem rleft_any {w0 w : World} {ps : List Piece} {g : Nat} {s : ByteArray} {n : Nat} (H : Own w0 w (RRdr g s n :: ps)) (hs : s.size ≤ 281474976710656) (hn : n ≤ 2251799813685248) :
    Calls Try.prog 22 #[.pointer (some ⟨g, 0, none⟩)] w fun e w' => e = .returned (.int .i64 (8 * s.size - n)) ∧ Own w0 w' (RRdr g s n :: ps) := by
  unfold RRdr at H ⊢
  obtain ⟨z, hz⟩ : ∃ z, Hid (s.size = z) := ⟨_, rfl⟩
  have hz2 := hz.out
  rw [hz2] at hs ⊢
  have hw : IntKind.i64.wrap (8 * (z : Int)) = 8 * z := IntWalk.i64_in _ ⟨by omega, by omega⟩
  have hw2 : IntKind.i64.wrap (8 * (z : Int) - n) = 8 * z - n := IntWalk.i64_in _ ⟨by omega, by omega⟩
  go_enter Try.func22, Try.ntmps22
  go_upto_region 1 with (fail)
  refine wp_region_calm (fun w1 => Own w0 w1 (blk g (.cells #[.string s, .int .i64 n] 45) :: ps)) 11 (by kernel_rfl) (by kernel_rfl) H.drew ?_
  simp only [List.take_succ_cons, List.take_zero, List.drop_succ_cons, List.drop_zero]
  repeat
    refine calm_value (v := ?_) (by decide) rfl (fun σ w1 hS => ?_) ?_; rotate_left
    · have c0 := hS.cells
      first | (go_simp; rfl) | rfl
    simp only [Act.put, List.setIfInBounds_toArray, List.set_cons_zero, List.set_cons_succ]
  refine calm_nil ?_
  intro wd HD
  go_wp2
  go_ret
  exact ⟨rfl, HD⟩

set_option maxHeartbeats 800000 in
theorem rtake_yes {w0 w : World} {ps : List Piece} {g : Nat} {s : ByteArray} {n : Nat} (m : Nat) (H : Own w0 w (RRdr g s n :: ps)) (hs : s.size ≤ 281474976710656) (hm : m ≤ 62) (hn : n + m ≤ 8 * s.size) :
    Calls Try.prog 16 #[.pointer (some ⟨g, 0, none⟩), .int .i64 m] w (Ret fun v w' => v = .tuple #[.int .i64 (valOf (((textBits s).drop n).take m)), .bool true] ∧ Own w0 w' (RRdr g s (n + m) :: ps)) := by
  obtain ⟨z, hz⟩ : ∃ z, Hid (s.size = z) := ⟨_, rfl⟩
  have hz2 := hz.out
  rw [hz2] at hs hn
  clear hz2
  obtain ⟨bs, hbs⟩ : ∃ bs, Hid ((textBits s).drop n = bs) := ⟨_, rfl⟩
  rw [hbs.out]
  have hbl : Hid (bs.length = 8 * z - n) := Lib.hid (by rw [← hbs.out, List.length_drop, textBits_length, hz.out])
  go_enter Try.func16, Try.ntmps16
  go_wp2_with fail
  refine (rleft_any H (by rw [hz.out]; exact hs) (by omega)).mono ?_
  rintro e w1 ⟨rfl, H1⟩
  rw [hz.out]
  clear H
  have hle : (m : Int) ≤ 8 * (z : Int) - n := by omega
  go_wp2_with fail
  go_loopw [6, 7] (fun x i wx => ∃ k : Nat, ∃ u d : Int, k ≤ m ∧ i = .int .i64 d ∧ Hid (d = (m : Int) - 1 - k) ∧ x = .int .i64 u ∧ Hid (u = valOf ((bs.drop (m - k)).take k)) ∧ Own w0 wx (RRdr g s n :: ps)) (fun _ i _ => (intOf i + 1).toNat)
  case atStart => exact ⟨0, 0, _, Nat.zero_le _, rfl, Lib.hid (by omega), rfl, Lib.hid rfl, H1⟩
  case round =>
    clear H1
    obtain ⟨k, u, d, hk, rfl, hd, rfl, hu, H⟩ := hrel
    unfold RRdr at H
    have c0 := H.cells
    by_cases hlt : k < m
    · obtain ⟨j, hj⟩ : ∃ j, Hid (m - 1 - k = j) := ⟨_, rfl⟩
      obtain rfl : d = (j : Int) := by have := hd.out; have := hj.out; omega
      obtain ⟨p, hp⟩ : ∃ p, Hid (n + j = p) := ⟨_, rfl⟩
      obtain ⟨r, hr⟩ : ∃ r, Hid (r = p % 8) := ⟨_, Lib.hid rfl⟩
      obtain ⟨q, hq⟩ : ∃ q, Hid (q = p / 8) := ⟨_, Lib.hid rfl⟩
      have hp8 : p < 8 * z := by have := hp.out; have := hj.out; omega
      have hj62 : j < 62 := by have := hj.out; omega
      have hpi : (n : Int) + (j : Int) = (p : Int) := by have := hp.out; omega
      have hrt : (p : Int).tmod 8 = (r : Int) := by have := hr.out; rw [Int.tmod_eq_emod_of_nonneg (by omega)]; omega
      have hqt : (p : Int).tdiv 8 = (q : Int) := by have := hq.out; rw [Int.tdiv_eq_ediv_of_nonneg (by omega)]; omega
      have hrt' : (p : Int) % 8 = (r : Int) := by have := hr.out; omega
      have hqt' : (p : Int) / 8 = (q : Int) := by have := hq.out; omega
      have hr8 : r < 8 := by have := hr.out; omega
      have hqs : q < s.size := by have := hz.out; have := hq.out; omega
      have hjl : j < bs.length := by have := hbl.out; have := hj.out; omega
      obtain ⟨b, hb⟩ : ∃ b, Hid (bs[j]? = some b) := ⟨bs[j], Lib.hid (List.getElem?_eq_getElem _)⟩
      have hbb : Hid (bitOf ((s[q].toNat : Nat) : Int) r = b) := Lib.hid (by
        have h1 := textBits_get s hqs hr8
        have h2 := hb.out
        rw [← hbs.out, List.getElem?_drop] at h2
        have e : n + j = 8 * q + r := by have := hp.out; have := hq.out; have := hr.out; omega
        rw [e, h1] at h2
        exact Option.some.inj h2)
      have hx8 := s[q].toNat_lt
      have hand : bits .and .i64 ((s[q].toNat : Int) / 2 ^ r) 1 = bi b := by rw [i64_and1, ← hbb.out, bi_bitOf]
      have hbd := bi_bd b
      obtain ⟨c, hc⟩ : ∃ c, Hid (bi b = c) := ⟨_, rfl⟩
      rw [hc.out] at hand hbd
      obtain ⟨hc0, hc1⟩ := hbd
      have hub := valOf_bd ((bs.drop (m - k)).take k)
      rw [← hu.out, List.length_take_of_le (by have := hbl.out; rw [List.length_drop]; omega)] at hub
      obtain ⟨hu0, hu1⟩ := hub
      have hu2 : u ≤ 2305843009213693951 := by
        have h1 : (2 : Int) ^ k ≤ 2 ^ 61 := pow2_le (by omega)
        have h61 : (2 : Int) ^ 61 = 2305843009213693952 := by decide
        omega
      clear hu1
      go_wp2
      go_round
      case rel => exact ⟨k + 1, 2 * u + c, _, by omega, rfl, Lib.hid (by have := hd.out; omega), rfl, Lib.hid (by
          have e1 : m - (k + 1) = j := by have := hj.out; omega
          have e2 : m - k = j + 1 := by have := hj.out; omega
          have e3 : bs[j] = b := by have := hb.out; rw [List.getElem?_eq_getElem hjl] at this; exact Option.some.inj this
          rw [e1, List.drop_eq_getElem_cons hjl, List.take_succ_cons, e3, valOf, hu.out, hc.out, e2]
          omega), H⟩
      case measure => simp [intOf]
    · have hd0 : d < 0 := by have := hd.out; omega
      obtain rfl : k = m := by omega
      have hnk : Hid ((n : Int) + k = ((n + k : Nat) : Int)) := Lib.hid (by omega)
      go_wp2_with (refine wpList_store_int rfl _ _ rfl rfl H rfl (by kernel_rfl) (by simp) ?_; clear H c0; intro w3 H)
      go_ret2
      refine ⟨.tuple #[.int .i64 u, .bool true], rfl, by rw [hu.out]; simp, ?_⟩
      rw [hnk.out] at H
      simpa [RRdr] using H

set_option maxHeartbeats 800000 in
theorem rtake_no {w0 w : World} {ps : List Piece} {g : Nat} {s : ByteArray} {n : Nat} (m : Int) (hm1 : -9223372036854775808 ≤ m) (hm2 : m ≤ 9223372036854775807) (H : Own w0 w (RRdr g s n :: ps)) (hs : s.size ≤ 281474976710656) (hn : n ≤ 2251799813685248) (hno : m < 0 ∨ 62 < m ∨ 8 * (s.size : Int) - n < m) :
    Calls Try.prog 16 #[.pointer (some ⟨g, 0, none⟩), .int .i64 m] w (Ret fun v w' => v = .tuple #[.int .i64 0, .bool false] ∧ Own w0 w' (RRdr g s n :: ps)) := by
  obtain ⟨z, hz⟩ : ∃ z, Hid (s.size = z) := ⟨_, rfl⟩
  rw [hz.out] at hno
  go_enter Try.func16, Try.ntmps16
  by_cases h1 : m < 0
  · go_wp2
    go_ret2
    exact ⟨_, rfl, rfl, H⟩
  by_cases h2 : 62 < m
  · go_wp2
    go_ret2
    exact ⟨_, rfl, rfl, H⟩
  have h3 : 8 * (z : Int) - n < m := by omega
  clear hno
  go_wp2_with fail
  refine (rleft_any H hs hn).mono ?_
  rintro e w1 ⟨rfl, H1⟩
  rw [hz.out]
  go_wp2
  go_ret2
  exact ⟨_, rfl, rfl, H1⟩

set_option maxHeartbeats 400000 in
theorem rralign_any {w0 w : World} {ps : List Piece} {g : Nat} {s : ByteArray} {n : Nat} (H : Own w0 w (RRdr g s n :: ps)) (hn : n ≤ 2251799813685248) :
    Calls Try.prog 18 #[.pointer (some ⟨g, 0, none⟩)] w (Ret fun _ w' => Own w0 w' (RRdr g s (8 * nbytes n) :: ps)) := by
  unfold RRdr at H
  obtain ⟨z, hz, hz1, hz2⟩ : ∃ z, Hid (8 * nbytes n = z) ∧ n ≤ z ∧ z ≤ n + 7 := ⟨_, Lib.hid rfl, by unfold nbytes; omega, by unfold nbytes; omega⟩
  have hz8 : Hid (z % 8 = 0) := Lib.hid (by have := hz.out; omega)
  go_enter Try.func18, Try.ntmps18
  go_wp2_with fail
  go_loopw [2] (fun _ wx => ∃ k : Nat, n ≤ k ∧ k ≤ z ∧ Own w0 wx (blk g (.cells #[.string s, .int .i64 k] 45) :: ps)) (fun _ wx => z - (intOf ((wx.cell? ⟨g, 1, none⟩).getD undef)).toNat)
  case atStart => exact ⟨n, Nat.le_refl _, hz1, H⟩
  case round =>
    clear H
    obtain ⟨k, hk0, hk, H⟩ := hrel
    have c0 := H.cells
    have hm0 : Hid ((intOf ((wr.cell? ⟨g, 1, none⟩).getD undef)).toNat = k) := Lib.hid (by rw [c0]; simp [intOf])
    by_cases hlt : k < z
    · have hr : ((k : Int) % 8 == 0) = false := by have := hz8.out; have := hz.out; simp; unfold nbytes at this; omega
      have hr2 : ((k : Int).tmod 8 == 0) = false := by rw [Int.tmod_eq_emod_of_nonneg (by omega)]; exact hr
      go_wp2_with (refine wpList_store_int rfl _ _ rfl rfl H rfl (by kernel_rfl) (by simp) ?_; clear H c0; intro w3 H)
      have c0 := H.cells
      simp only [Act.put]
      go_roundw
      case rel => exact ⟨k + 1, by omega, by omega, by simpa using H⟩
      case measure =>
        rw [hm0.out, c0]
        simp [intOf]
        omega
    · obtain rfl : k = z := by omega
      have hr : (k : Int) % 8 = 0 := by have := hz8.out; omega
      have hr2 : (k : Int).tmod 8 = 0 := by rw [Int.tmod_eq_emod_of_nonneg (by omega)]; exact hr
      go_wp2
      go_end0
      rw [hz.out]
      exact ⟨_, rfl, H⟩

set_option maxHeartbeats 400000 in
theorem rrtext_yes {w0 w : World} {ps : List Piece} {g : Nat} {s : ByteArray} {n : Nat} (m : Nat) (H : Own w0 w (RRdr g s n :: ps)) (hs : s.size ≤ 281474976710656) (hm : nbytes n + m ≤ s.size) :
    Calls Try.prog 20 #[.pointer (some ⟨g, 0, none⟩), .int .i64 m] w (Ret fun v w' => v = .tuple #[.string (s.extract (nbytes n) (nbytes n + m)), .bool true] ∧ Own w0 w' (RRdr g s (8 * (nbytes n + m)) :: ps)) := by
  obtain ⟨z, hz⟩ : ∃ z, Hid (s.size = z) := ⟨_, rfl⟩
  obtain ⟨q, hq⟩ : ∃ q, Hid (q = nbytes n) := ⟨_, Lib.hid rfl⟩
  rw [← hq.out] at hm ⊢
  have hmz : q + m ≤ z := by rw [← hz.out]; exact hm
  have hz3 : z ≤ 281474976710656 := by rw [← hz.out]; exact hs
  have hqt : ((n : Int) + 7).tdiv 8 = (q : Int) := by have := hq.out; unfold nbytes at this; rw [Int.tdiv_eq_ediv_of_nonneg (by omega)]; omega
  have hqt' : ((n : Int) + 7) / 8 = (q : Int) := by have := hq.out; unfold nbytes at this; omega
  have hn : n ≤ 2251799813685248 := by have := hq.out; unfold nbytes at this; omega
  have hle : (m : Int) ≤ (s.size : Int) - (q : Int) := by have := hz.out; omega
  have h8 : Hid (8 * ((q : Int) + (m : Int)) = ((8 * (q + m) : Nat) : Int)) := Lib.hid (by omega)
  unfold RRdr at H
  have c0 := H.cells
  go_enter Try.func20, Try.ntmps20
  go_wp2_with (refine wpList_store_int rfl _ _ rfl rfl H rfl (by kernel_rfl) (by simp) ?_; clear H c0; intro w3 H; have c0 := H.cells)
  go_ret2
  refine ⟨_, rfl, rfl, ?_⟩
  rw [h8.out] at H
  simpa [RRdr] using H

set_option maxHeartbeats 400000 in
theorem rrtext_no {w0 w : World} {ps : List Piece} {g : Nat} {s : ByteArray} {n : Nat} (m : Int) (hm1 : -9223372036854775808 ≤ m) (hm2 : m ≤ 9223372036854775807) (H : Own w0 w (RRdr g s n :: ps)) (hs : s.size ≤ 281474976710656) (hn : n ≤ 2251799813685248) (hno : m < 0 ∨ (s.size : Int) - nbytes n < m) :
    Calls Try.prog 20 #[.pointer (some ⟨g, 0, none⟩), .int .i64 m] w (Ret fun v w' => v = .tuple #[.string ByteArray.empty, .bool false] ∧ Own w0 w' (RRdr g s n :: ps)) := by
  obtain ⟨q, hq⟩ : ∃ q, Hid (q = nbytes n) := ⟨_, Lib.hid rfl⟩
  rw [← hq.out] at hno
  have hqt : ((n : Int) + 7).tdiv 8 = (q : Int) := by have := hq.out; unfold nbytes at this; rw [Int.tdiv_eq_ediv_of_nonneg (by omega)]; omega
  have hqt' : ((n : Int) + 7) / 8 = (q : Int) := by have := hq.out; unfold nbytes at this; omega
  have hqb : q ≤ 281474976710656 := by have := hq.out; unfold nbytes at this; omega
  have H0 := H
  unfold RRdr at H
  have c0 := H.cells
  go_enter Try.func20, Try.ntmps20
  by_cases h1 : m < 0
  · go_wp2
    go_ret2
    exact ⟨_, rfl, rfl, H0⟩
  have h2 : (s.size : Int) - (q : Int) < m := by omega
  clear hno
  go_wp2
  go_ret2
  exact ⟨_, rfl, rfl, H0⟩
end Go.Proofs.Ytbooacglmeoceaa
