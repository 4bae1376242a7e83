/-
  Bits: the walks of the reader.
-/
import Derived.Test.YtbooacglmeoceaaBitsN
import Derived.Test.YtbooacglmeoceaaBit2
namespace Go.Proofs.Ytbooacglmeoceaa
open Go.RowKit

theorem bitsOfNums_get (ns : List Int) : ∀ (q r : Nat), r < 8 → (bitsOfNums ns)[8 * q + r]? = (ns[q]?).map (bitOf · r) := by
  induction ns with
  | nil => intro q r _; simp [bitsOfNums]
  | cons n ns ih =>
    intro q r hr
    show (bitsOf n 8 ++ bitsOfNums ns)[8 * q + r]? = _
    cases q with
    | zero =>
      rw [List.getElem?_append_left (by rw [bitsOf_length]; omega)]
      simp [bitsOf, hr]
    | succ q =>
      rw [List.getElem?_append_right (by rw [bitsOf_length]; omega), bitsOf_length, show 8 * (q + 1) + r - 8 = 8 * q + r by omega, ih q r hr]
      rfl
theorem textBits_get (s : ByteArray) {q r : Nat} (hq : q < s.size) (hr : r < 8) : (textBits s)[8 * q + r]? = some (bitOf ((s[q].toNat : Nat) : Int) r) := by
  have h : (byteNums s)[q]? = some ((s[q].toNat : Nat) : Int) := by
    have : q < s.data.size := hq
    simp only [byteNums, List.getElem?_map, Array.getElem?_toList, Array.getElem?_eq_getElem this]
    rfl
  rw [textBits, bitsOfNums_get _ q r hr, h]
  rfl

/-- A reader of a text, n bits taken. -/
def Rdr (g : Nat) (s : ByteArray) (n : Nat) : Piece := blk g (.cells #[.string s, .int .i64 n] 57)

set_option maxHeartbeats 400000 in
theorem left_any {w0 w : World} {ps : List Piece} {g : Nat} {s : ByteArray} {n : Nat} (H : Own w0 w (Rdr g s n :: ps)) (hs : s.size ≤ 281474976710656) (hn : n ≤ 2251799813685248) :
    Calls Try.prog 21 #[.pointer (some ⟨g, 0, none⟩)] w fun e w' => e = .returned (.int .i64 (8 * s.size - n)) ∧ Own w0 w' (Rdr g s n :: ps) := by
  unfold Rdr at H ⊢
  obtain ⟨z, hz⟩ : ∃ z, Hid (s.size = z) := ⟨_, rfl⟩
  have hz2 := hz.out
  rw [hz2] at hs ⊢
  have hw : IntKind.i64.wrap (8 * (z : Int)) = 8 * z := IntWalk.i64_in _ ⟨by omega, by omega⟩
  have hw2 : IntKind.i64.wrap (8 * (z : Int) - n) = 8 * z - n := IntWalk.i64_in _ ⟨by omega, by omega⟩
  go_enter Try.func21, Try.ntmps21
  go_upto_region 3 with (fail)
  refine wp_region_calm (fun w1 => Own w0 w1 (blk g (.cells #[.string s, .int .i64 n] 57) :: ps)) 11 (by kernel_rfl) (by kernel_rfl) H.drew ?_
  simp only [List.take_succ_cons, List.take_zero, List.drop_succ_cons, List.drop_zero]
  repeat
    refine calm_value (v := ?_) (by decide) rfl (fun σ w1 hS => ?_) ?_; rotate_left
    · have c0 := hS.cells
      first | (go_simp; rfl) | rfl
    simp only [Act.put, List.setIfInBounds_toArray, List.set_cons_zero, List.set_cons_succ]
  refine calm_nil ?_
  intro wd HD
  go_wp2
  go_ret
  exact ⟨rfl, HD⟩

set_option maxHeartbeats 800000 in
theorem take_yes {w0 w : World} {ps : List Piece} {g : Nat} {s : ByteArray} {n : Nat} (m : Nat) (H : Own w0 w (Rdr g s n :: ps)) (hs : s.size ≤ 281474976710656) (hm : m ≤ 62) (hn : n + m ≤ 8 * s.size) :
    Calls Try.prog 15 #[.pointer (some ⟨g, 0, none⟩), .int .i64 m] w (Ret fun v w' => v = .tuple #[.int .i64 (valOf (((textBits s).drop n).take m)), .bool true] ∧ Own w0 w' (Rdr g s (n + m) :: ps)) := by
  obtain ⟨z, hz⟩ : ∃ z, Hid (s.size = z) := ⟨_, rfl⟩
  have hz2 := hz.out
  rw [hz2] at hs hn
  clear hz2
  obtain ⟨bs, hbs⟩ : ∃ bs, Hid ((textBits s).drop n = bs) := ⟨_, rfl⟩
  rw [hbs.out]
  have hbl : Hid (bs.length = 8 * z - n) := Lib.hid (by rw [← hbs.out, List.length_drop, textBits_length, hz.out])
  go_enter Try.func15, Try.ntmps15
  go_wp2_with fail
  refine (left_any H (by rw [hz.out]; exact hs) (by omega)).mono ?_
  rintro e w1 ⟨rfl, H1⟩
  rw [hz.out]
  clear H
  have hle : (m : Int) ≤ 8 * (z : Int) - n := by omega
  go_wp2_with fail
  go_loopw [6, 26] (fun x i wx => ∃ k : Nat, ∃ u : Int, k ≤ m ∧ i = .int .i64 k ∧ x = .int .i64 u ∧ Hid (u = valOf (bs.take k)) ∧ Own w0 wx (Rdr g s n :: ps)) (fun _ i _ => m - (intOf i).toNat)
  case atStart => exact ⟨0, 0, Nat.zero_le _, rfl, rfl, Lib.hid rfl, H1⟩
  case round =>
    clear H1
    obtain ⟨k, u, hk, rfl, rfl, hu, H⟩ := hrel
    unfold Rdr at H
    have c0 := H.cells
    by_cases hlt : k < m
    · obtain ⟨p, hp⟩ : ∃ p, Hid (n + k = p) := ⟨_, rfl⟩
      obtain ⟨r, hr⟩ : ∃ r, Hid (r = p % 8) := ⟨_, Lib.hid rfl⟩
      obtain ⟨q, hq⟩ : ∃ q, Hid (q = p / 8) := ⟨_, Lib.hid rfl⟩
      have hp8 : p < 8 * z := by have := hp.out; omega
      have hpi : (n : Int) + (k : Int) = (p : Int) := by have := hp.out; omega
      have hrt : (p : Int).tmod 8 = (r : Int) := by have := hr.out; rw [Int.tmod_eq_emod_of_nonneg (by omega)]; omega
      have hqt : (p : Int).tdiv 8 = (q : Int) := by have := hq.out; rw [Int.tdiv_eq_ediv_of_nonneg (by omega)]; omega
      have hrt' : (p : Int) % 8 = (r : Int) := by have := hr.out; omega
      have hqt' : (p : Int) / 8 = (q : Int) := by have := hq.out; omega
      have hr8 : r < 8 := by have := hr.out; omega
      have hqs : q < s.size := by have := hz.out; have := hq.out; omega
      obtain ⟨b, hb⟩ : ∃ b, Hid (bs[k]? = some b) := ⟨bs[k]'(by have := hbl.out; omega), Lib.hid (List.getElem?_eq_getElem _)⟩
      have hbb : Hid (bitOf ((s[q].toNat : Nat) : Int) r = b) := Lib.hid (by
        have h1 := textBits_get s hqs hr8
        have h2 := hb.out
        rw [← hbs.out, List.getElem?_drop] at h2
        have e : n + k = 8 * q + r := by have := hp.out; have := hq.out; have := hr.out; omega
        rw [e, h1] at h2
        exact Option.some.inj h2)
      have hx8 := s[q].toNat_lt
      have hand : bits .and .u8 ((s[q].toNat : Int) / 2 ^ r) 1 = bi b := by
        have h0 : (0 : Int) ≤ (s[q].toNat : Int) / 2 ^ r := Int.ediv_nonneg (by omega) (Int.le_of_lt (Int.pow_pos (by decide)))
        have h1 : (s[q].toNat : Int) / 2 ^ r ≤ (s[q].toNat : Int) := Int.ediv_le_self _ (by omega)
        rw [u8_and1 h0 (by omega), ← hbb.out, bi_bitOf]
      have hbd := bi_bd b
      obtain ⟨c, hc⟩ : ∃ c, Hid (bi b = c) := ⟨_, rfl⟩
      rw [hc.out] at hand hbd
      obtain ⟨hc0, hc1⟩ := hbd
      have hub := valOf_bd (bs.take k)
      rw [← hu.out, List.length_take_of_le (by have := hbl.out; omega)] at hub
      obtain ⟨hu0, hu1⟩ := hub
      have hor := or64 (show k ≤ 61 by omega) hu0 hu1 hc0 hc1
      go_wp2
      go_round
      case rel =>
        have hw : wrap64 (c * 2 ^ k) = c * 2 ^ k := by
          have hp : (2 : Int) ^ k ≤ 2 ^ 61 := pow2_le (by omega)
          have hp0 : (0 : Int) < 2 ^ k := Int.pow_pos (by decide)
          have h61 : (2 : Int) ^ 61 = 2305843009213693952 := by decide
          have : c = 0 ∨ c = 1 := by omega
          rcases this with rfl | rfl
          · exact IntWalk.wrap64_in _ ⟨by omega, by omega⟩
          · exact IntWalk.wrap64_in _ ⟨by omega, by omega⟩
        exact ⟨k + 1, u + 2 ^ k * c, by omega, by go_num, val_int (by rw [hw]; exact hor), Lib.hid (by
          rw [List.take_add_one, hb.out, Option.toList_some, valOf_snoc, ← hu.out, hc.out, List.length_take_of_le (by have := hbl.out; omega)]), H⟩
      case measure => simp [intOf]; omega
    · obtain rfl : k = m := by omega
      have hnk : Hid ((n : Int) + k = ((n + k : Nat) : Int)) := Lib.hid (by omega)
      go_wp2_with (refine wpList_store_int rfl _ _ rfl rfl H rfl (by kernel_rfl) (by simp) ?_; clear H c0; intro w3 H)
      go_ret2
      refine ⟨.tuple #[.int .i64 u, .bool true], rfl, by rw [hu.out], ?_⟩
      rw [hnk.out] at H
      simpa [Rdr] using H

set_option maxHeartbeats 800000 in
theorem take_no {w0 w : World} {ps : List Piece} {g : Nat} {s : ByteArray} {n : Nat} (m : Int) (hm1 : -9223372036854775808 ≤ m) (hm2 : m ≤ 9223372036854775807) (H : Own w0 w (Rdr g s n :: ps)) (hs : s.size ≤ 281474976710656) (hn : n ≤ 2251799813685248) (hno : m < 0 ∨ 62 < m ∨ 8 * (s.size : Int) - n < m) :
    Calls Try.prog 15 #[.pointer (some ⟨g, 0, none⟩), .int .i64 m] w (Ret fun v w' => v = .tuple #[.int .i64 0, .bool false] ∧ Own w0 w' (Rdr g s n :: ps)) := by
  obtain ⟨z, hz⟩ : ∃ z, Hid (s.size = z) := ⟨_, rfl⟩
  rw [hz.out] at hno
  go_enter Try.func15, Try.ntmps15
  by_cases h1 : m < 0
  · go_wp2
    go_ret2
    exact ⟨_, rfl, rfl, H⟩
  by_cases h2 : 62 < m
  · go_wp2
    go_ret2
    exact ⟨_, rfl, rfl, H⟩
  have h3 : 8 * (z : Int) - n < m := by omega
  clear hno
  go_wp2_with fail
  refine (left_any H hs hn).mono ?_
  rintro e w1 ⟨rfl, H1⟩
  rw [hz.out]
  go_wp2
  go_ret2
  exact ⟨_, rfl, rfl, H1⟩

set_option maxHeartbeats 400000 in
theorem used_any {w0 w : World} {ps : List Piece} {g : Nat} {s : ByteArray} {n : Nat} (H : Own w0 w (Rdr g s n :: ps)) :
    Calls Try.prog 23 #[.pointer (some ⟨g, 0, none⟩)] w fun e w' => e = .returned (.int .i64 n) ∧ w' = w := by
  unfold Rdr at H
  have c0 := H.cells
  go_enter Try.func23, Try.ntmps23
  go_wp2
  go_ret
  exact ⟨rfl, rfl⟩

set_option maxHeartbeats 400000 in
theorem rdalign_any {w0 w : World} {ps : List Piece} {g : Nat} {s : ByteArray} {n : Nat} (H : Own w0 w (Rdr g s n :: ps)) (hn : n ≤ 2251799813685248) :
    Calls Try.prog 17 #[.pointer (some ⟨g, 0, none⟩)] w (Ret fun _ w' => Own w0 w' (Rdr g s (8 * nbytes n) :: ps)) := by
  unfold Rdr at H
  have c0 := H.cells
  obtain ⟨q, hq⟩ : ∃ q, Hid (q = nbytes n) := ⟨_, Lib.hid rfl⟩
  have hqt : ((n : Int) + 7).tdiv 8 = (q : Int) := by have := hq.out; unfold nbytes at this; rw [Int.tdiv_eq_ediv_of_nonneg (by omega)]; omega
  have hqt' : ((n : Int) + 7) / 8 = (q : Int) := by have := hq.out; unfold nbytes at this; omega
  have hqb : q ≤ 2251799813685248 := by have := hq.out; unfold nbytes at this; omega
  have h8 : Hid ((q : Int) * 8 = ((8 * q : Nat) : Int)) := Lib.hid (by omega)
  go_enter Try.func17, Try.ntmps17
  go_wp2_with (refine wpList_store_int rfl _ _ rfl rfl H rfl (by kernel_rfl) (by simp) ?_; clear H c0; intro w3 H)
  go_end0
  refine ⟨_, rfl, ?_⟩
  rw [← hq.out]
  rw [h8.out] at H
  simpa [Rdr] using H
end Go.Proofs.Ytbooacglmeoceaa
