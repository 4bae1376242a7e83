/-
  Texts of this claim, one behind the other: huff; Bits; Bits; Bits; stream; As XCalm; A call that changes what there is, in a region that draws its order; slices.Repeat; copy into a row of the call's own; slices.Repeat of one int; slices.Grow of nil, slices.Concat; As XTrk; flate; stream; stream; An array of ints by value, read at an index; stream; stream.
-/
import Derived.Test.YtljejkdkjnbmhaaUc2
import Derived.Deep.OwnRows
import Derived.Laws.CopyOwn
import Derived.Lib.AppendZeros
import Derived.OwnWalk
set_option linter.unusedVariables false
/- huff: laws for the walk of Decode. -/
namespace Go.Proofs.Ytljejkdkjnbmhaa
open Go.RowKit


set_option maxRecDepth 100000 in
set_option maxHeartbeats 6400000 in
/-- A symbol is taken. -/
theorem decode_any {w0 w : World} {ps : List Piece} {g rg n : Nat} {l : List Int} {s : ByteArray} (hall : ∀ x ∈ l, 0 ≤ x ∧ x ≤ 15) (hw : sumF wtF l ≤ 2 ^ 15) (hlen : l.length ≤ 1000000) (hs : s.size ≤ 281474976710656) (hn : n ≤ 8 * s.size)
    (H : Own w0 w (Rdr rg s n :: Tbl g l :: ps)) :
    Calls Try.prog 43 #[.pointer (some ⟨g, 0, none⟩), .pointer (some ⟨rg, 0, none⟩)] w (Ret fun r w' => r = .tuple #[.int .i64 (decF l ((textBits s).drop n)).1, .int .i64 (decF l ((textBits s).drop n)).2.1] ∧ Own w0 w' (Rdr rg s (n + (decF l ((textBits s).drop n)).2.2) :: Tbl g l :: ps)) := by
  obtain ⟨v, H⟩ := H.swap.ex
  have H := H.star
  obtain ⟨ta, tc, rfl, ht1, ht2⟩ := H.swap.rd.shape
  obtain ⟨bs, hbs⟩ : ∃ bs, Hid ((textBits s).drop n = bs) := ⟨_, rfl⟩
  rw [hbs.out]
  have hbl : Hid (bs.length = 8 * s.size - n) := Lib.hid (by rw [← hbs.out, List.length_drop, textBits_length])
  obtain ⟨x1, x2, x3, hD⟩ : ∃ x1 x2 x3, Hid (decF l bs = (x1, x2, x3)) := ⟨_, _, _, rfl⟩
  rw [hD.out]
  obtain ⟨q, hq⟩ : ∃ q, Hid ((tsymsF l).length = q) := ⟨_, rfl⟩
  rw [hq.out] at H
  have hcl := counts_length l
  have HALL := Lib.hid hall
  have HW := Lib.hid hw
  clear hall hw
  have H : Own w0 w (Rdr rg s n :: blk g (.cells (tcells l (.slice ta q tc)) 109) :: slc 3 1 (.slice ta q tc) q (nums (natI (tsymsF l))) :: ps) := (H.front 2 rfl)
  have fin : ∀ (wz : World) (m : Nat), Own w0 wz (Rdr rg s m :: blk g (.cells (tcells l (.slice ta q tc)) 109) :: slc 3 1 (.slice ta q tc) q (nums (natI (tsymsF l))) :: ps) → Own w0 wz (Rdr rg s m :: Tbl g l :: ps) := fun wz m h => by
    have h2 := (h.front 2 rfl).front 2 rfl
    refine (Own.unex (f := fun v => Go.Proofs.Ytljejkdkjnbmhaa.star (blk g (.cells ((nums (countsF l)).toArray.push v) 109)) (slc 3 1 v (tsymsF l).length (nums (natI (tsymsF l))))) (.slice ta q tc) (Own.unstar ?_)).swap
    rw [hq.out]
    exact h2
  have FIN := Lib.hid fin
  clear fin
  go_enter Try.func43, Try.ntmps43
  go_wp2_with fail
  go_loopw [6, 7, 8, 20] (fun s6 s7 s8 s20 wx => ∃ (i : Nat) (c : Int) (y : Int × Int × Nat), s20 = .int .i64 i ∧ s6 = .int .i64 (2 * c) ∧ s7 = .int .i64 (lowF l (i + 1)) ∧ s8 = .int .i64 (atF l (i + 1)) ∧ i ≤ 15 ∧ i ≤ bs.length ∧ 0 ≤ c ∧ Hid (c < 2 ^ i) ∧ Hid (lowF l i + cntC l i ≤ c) ∧ Hid (decN l (15 - i) i c (bs.drop i) = y) ∧ Hid (y.1 = x1 ∧ y.2.1 = x2 ∧ i + y.2.2 = x3) ∧ Own w0 wx (Rdr rg s (n + i) :: blk g (.cells (tcells l (.slice ta q tc)) 109) :: slc 3 1 (.slice ta q tc) q (nums (natI (tsymsF l))) :: ps)) (fun _ _ _ s20 _ => 15 - (intOf s20).toNat)
  case atStart =>
    exact ⟨0, 0, _, by go_num, by go_num, by rw [lowF_succ, lowF_zero]; rfl, rfl, by omega, by omega, by omega, Lib.hid (by decide), Lib.hid (by rw [lowF_zero]; simp [cntC]), Lib.hid rfl, Lib.hid (by have := hD.out; unfold decF at this; simp [this]), H⟩
  case round =>
    clear H
    obtain ⟨i, c, y, rfl, rfl, rfl, rfl, hi, hib, hc0, hc2, hcl2, hy, hyx, H⟩ := hrel
    have hlow := low_le HALL.out HW.out (i + 1) (by omega)
    have hat := atF_le HALL.out (i + 1)
    by_cases hlt : i < 15
    · have hiI : (i : Int) < 15 := by omega
      have hci : c ≤ 32768 := by
        obtain ⟨p, hp, h2, h3⟩ := pow_pos_nat i (by omega)
        have := hc2.out
        rw [hp] at this
        omega
      have c0 := (H.front 1 rfl).cells (1 + i)
      unfold tcells at c0
      rw [cells17 _ _ hcl _ (by omega), counts_get HALL.out _ (by omega), show cntC l (1 + i) = cntC l (i + 1) by rw [Nat.add_comm]] at c0
      have hlow2 := low_le HALL.out HW.out (i + 1 + 1) (by omega)
      have hls := lowF_succ l (i + 1)
      have hats : atF l (i + 1 + 1) = atF l (i + 1) + cntC l (i + 1) := rfl
      have hat2 := atF_le HALL.out (i + 1 + 1)
      have hcn0 := cntC_nonneg l (i + 1)
      have hlow1 : lowF l (i + 1) ≤ 2 * c := by have := hcl2.out; rw [lowF_succ]; omega
      by_cases hbit : i < bs.length
      · obtain ⟨b, hb⟩ : ∃ b, bs[i]? = some b := ⟨bs[i], List.getElem?_eq_getElem hbit⟩
        have ht := take_yes (m := 1) H hs (by omega) (by have := hbl.out; omega)
        rw [show ((1 : Nat) : Int) = 1 from rfl] at ht
        have hval : ((textBits s).drop (n + i)).take 1 = [b] := by
          rw [← List.drop_drop, hbs.out]
          have : bs.drop i = b :: bs.drop (i + 1) := by
            obtain ⟨h1, h2⟩ := List.getElem?_eq_some_iff.1 hb
            rw [List.drop_eq_getElem_cons h1, h2]
          rw [this]; rfl
        rw [hval] at ht
        have hvb : valOf [b] = bi b := by simp [valOf]
        rw [hvb] at ht
        have hy2 := hy.out
        have hdrop : bs.drop i = b :: bs.drop (i + 1) := by
          obtain ⟨h1, h2⟩ := List.getElem?_eq_some_iff.1 hb
          rw [List.drop_eq_getElem_cons h1, h2]
        rw [hdrop, show 15 - i = (15 - (i + 1)) + 1 by omega, decN] at hy2
        have hbd := bi_bd b
        have hor := or_low hc0 (by omega) hbd.1 hbd.2
        have hc2' : Hid (2 * c + bi b < 2 ^ (i + 1)) := Lib.hid (by have := hc2.out; rw [Int.pow_succ]; omega)
        have hsl := symsL_length (l := l) (i + 1)
        have hcnt : cntC l (i + 1) = cntL l (i + 1) := by unfold cntC; rw [if_neg (by omega)]
        have hget := fun j h => tsymsN_get (l := l) (n := i) (m := 15) (i := j) hlt h
        have htl := tsymsN_length (l := l) i
        have HT := Lib.hid ht
        have HGET := Lib.hid hget
        obtain ⟨d, hd⟩ : ∃ d, bi b = d := ⟨_, rfl⟩
        rw [hd] at hy2 hor hc2' hbd HT
        clear ht hget hdrop hvb hval hb hd hy
        by_cases hh : 2 * c + d - lowF l (i + 1) < cntC l (i + 1)
        · obtain ⟨j, hj⟩ : ∃ j : Nat, 2 * c + d - lowF l (i + 1) = j := ⟨(2 * c + d - lowF l (i + 1)).toNat, by omega⟩
          have hjl : j < (symsL l (i + 1)).length := by omega
          rw [hj, Int.toNat_natCast, List.getElem?_eq_getElem hjl] at hy2
          simp only at hy2
          obtain ⟨sy, hsy⟩ : ∃ sy, (symsL l (i + 1))[j] = sy := ⟨_, rfl⟩
          rw [hsy] at hy2
          subst hy2
          obtain ⟨hx1, hx2, hx3⟩ := hyx.out
          simp only at hx1 hx2 hx3
          subst hx1 hx2 hx3
          have htq : (nums (natI (tsymsF l)))[(tsymsN l i).length + j]? = some (.int .i64 (sy : Int)) := by
            have h1 := HGET.out j (by omega)
            rw [List.getElem?_eq_getElem hjl, hsy] at h1
            refine nums_get ?_
            unfold natI
            rw [List.getElem?_map]
            show Option.map _ ((tsymsN l 15)[_]?) = _
            rw [h1]
            rfl
          have hidx : (tsymsN l i).length + j < q := by
            have h1 := HGET.out j (by omega)
            rw [List.getElem?_eq_getElem hjl] at h1
            have := (List.getElem?_eq_some_iff.1 h1).1
            rw [← hq.out]; exact this
          obtain ⟨ix, hix⟩ : ∃ ix, (tsymsN l i).length + j = ix := ⟨_, rfl⟩
          rw [hix] at htq hidx
          have hixI : atF l (i + 1) + (2 * c + d) - lowF l (i + 1) = (ix : Int) := by omega
          have hw1 : IntKind.i64.wrap (2 * c + d - lowF l (i + 1)) = 2 * c + d - lowF l (i + 1) := IntWalk.i64_in _ ⟨by omega, by omega⟩
          have hw2 : IntKind.i64.wrap (atF l (i + 1) + (2 * c + d)) = atF l (i + 1) + (2 * c + d) := IntWalk.i64_in _ ⟨by omega, by omega⟩
          have hw3 : IntKind.i64.wrap (atF l (i + 1) + (2 * c + d) - lowF l (i + 1)) = (ix : Int) := by rw [hixI]; exact IntWalk.i64_in _ ⟨by omega, by omega⟩
          have HTQ := Lib.hid htq
          clear htq hixI hix htl hjl hsy hj hcnt hsl hls hats hat2 hlow2 hcl2 hyx HGET
          generalize lowF l (i + 1) = lo at *
          generalize atF l (i + 1) = at_ at *
          generalize cntC l (i + 1) = k at *
          have hixI2 : (ix : Int) < (q : Int) := by omega
          go_wp2_with fail
          refine HT.out.mono ?_
          rintro e w2 ⟨_, rfl, rfl, H2⟩
          clear H c0
          have c1 := (H2.front 1 rfl).cells 16
          unfold tcells at c1
          rw [cell16 _ _ hcl] at c1
          obtain ⟨gb, go, _, he, -⟩ := (H2.front 2 rfl).rd.some (by rw [nums_length]; unfold natI; rw [List.length_map, hq.out]; omega)
          cases he
          have c2 := (H2.front 2 rfl).rd.cell HTQ.out
          go_wp2_with fail
          go_ret2
          exact ⟨_, rfl, rfl, FIN.out _ _ (by rw [← Nat.add_assoc]; exact H2)⟩
        · have hnone : (symsL l (i + 1))[(2 * c + d - lowF l (i + 1)).toNat]? = none := List.getElem?_eq_none (by omega)
          rw [hnone] at hy2
          simp only at hy2
          subst hy2
          have hyx2 : Hid ((decN l (15 - (i + 1)) (i + 1) (2 * c + d) (bs.drop (i + 1))).1 = x1 ∧ (decN l (15 - (i + 1)) (i + 1) (2 * c + d) (bs.drop (i + 1))).2.1 = x2 ∧ i + 1 + (decN l (15 - (i + 1)) (i + 1) (2 * c + d) (bs.drop (i + 1))).2.2 = x3) := Lib.hid (by
            obtain ⟨h1, h2, h3⟩ := hyx.out
            exact ⟨h1, h2, by rw [← h3]; simp only; omega⟩)
          have hcl3 : Hid (lowF l (i + 1) + cntC l (i + 1) ≤ 2 * c + d) := Lib.hid (by omega)
          have hcd : 0 ≤ 2 * c + d ∧ 2 * c + d ≤ 65537 := ⟨by omega, by omega⟩
          clear hnone hyx HGET htl hsl hcnt hcl2
          generalize hlo2 : lowF l (i + 1 + 1) = lo2 at *
          generalize hat2' : atF l (i + 1 + 1) = at2 at *
          generalize hlo : lowF l (i + 1) = lo at *
          generalize atF l (i + 1) = at_ at *
          generalize hkk : cntC l (i + 1) = k at *
          have HLO2 := Lib.hid hlo2
          have HAT2 := Lib.hid hat2'
          have HLO := Lib.hid hlo
          have HKK := Lib.hid hkk
          clear hlo2 hat2' hlo hkk
          have hw1 : IntKind.i64.wrap (2 * c + d - lo) = 2 * c + d - lo := IntWalk.i64_in _ ⟨by omega, by omega⟩
          have hw2 : IntKind.i64.wrap (at_ + k) = at2 := by rw [hats]; exact IntWalk.i64_in _ ⟨by omega, by omega⟩
          have hw3 : IntKind.i64.wrap (lo + k) = lo + k := IntWalk.i64_in _ ⟨by omega, by omega⟩
          have hw4 : IntKind.i64.wrap ((lo + k) * 2) = lo2 := by rw [hls, Int.mul_comm]; exact IntWalk.i64_in _ ⟨by omega, by omega⟩
          have hw5 : IntKind.i64.wrap ((2 * c + d) * 2) = 2 * (2 * c + d) := by rw [Int.mul_comm]; exact IntWalk.i64_in _ ⟨by omega, by omega⟩
          have hii : i + 1 ≤ bs.length := hbit
          obtain ⟨hcd0, hcd1⟩ := hcd
          clear hls hats hat hat2 hlow hlow2 hcd1 hbit
          go_wp2_with fail
          refine HT.out.mono ?_
          rintro e w2 ⟨_, rfl, rfl, H2⟩
          clear H c0
          go_wp2_with fail
          go_roundw
          case rel => exact ⟨i + 1, 2 * c + d, _, by go_num, by go_num, by rw [HLO2.out], by rw [HAT2.out], by omega, hii, hcd0, hc2', Lib.hid (by rw [HLO.out, HKK.out]; exact hcl3.out), Lib.hid rfl, hyx2, by rw [← Nat.add_assoc]; exact H2⟩
          case measure => simp [intOf]; omega
      · have hib2 : i = bs.length := by omega
        have hy2 := hy.out
        rw [List.drop_eq_nil_of_le (by omega), show 15 - i = (15 - (i + 1)) + 1 by omega, decN] at hy2
        subst hy2
        obtain ⟨hx1, hx2, hx3⟩ := hyx.out
        simp only at hx1 hx2 hx3
        rw [Nat.add_zero] at hx3
        subst hx1 hx2 hx3
        have ht := take_no 1 (by omega) (by omega) H hs (by have := hbl.out; omega) (.inr (.inr (by have := hbl.out; omega)))
        have HT := Lib.hid ht
        clear ht hls hats hat hat2 hlow hlow2 hib2
        go_wp2_with fail
        refine HT.out.mono ?_
        rintro e w2 ⟨_, rfl, rfl, H2⟩
        clear H c0
        go_wp2_with fail
        go_ret2
        exact ⟨_, rfl, rfl, FIN.out _ _ H2⟩
    · have hi15 : i = 15 := by omega
      have hiI : ¬ (i : Int) < 15 := by omega
      have hy2 := hy.out
      rw [show 15 - i = 0 by omega, decN] at hy2
      subst hy2
      obtain ⟨hx1, hx2, hx3⟩ := hyx.out
      simp only at hx1 hx2 hx3
      rw [Nat.add_zero] at hx3
      subst hx1 hx2 hx3
      clear hat hlow hi15
      go_wp2_with fail
      go_ret2
      exact ⟨_, rfl, rfl, FIN.out _ _ H⟩
end Go.Proofs.Ytljejkdkjnbmhaa
/- Bits: Reader.Used. -/
namespace Go.Proofs.Ytljejkdkjnbmhaa
open Go.RowKit

set_option maxHeartbeats 400000 in
theorem used_any {w0 w : World} {ps : List Piece} {g : Nat} {s : ByteArray} {n : Nat} (H : Own w0 w (Rdr g s n :: ps)) :
    Calls Try.prog 17 #[.pointer (some ⟨g, 0, none⟩)] w fun e w' => e = .returned (.int .i64 n) ∧ w' = w := by
  unfold Rdr at H
  have c0 := H.cells
  go_enter Try.func17, Try.ntmps17
  go_wp2
  go_ret
  exact ⟨rfl, rfl⟩
end Go.Proofs.Ytljejkdkjnbmhaa
/- Bits: Reader.Align. -/
namespace Go.Proofs.Ytljejkdkjnbmhaa
open Go.RowKit

set_option maxHeartbeats 400000 in
theorem rdalign_any {w0 w : World} {ps : List Piece} {g : Nat} {s : ByteArray} {n : Nat} (H : Own w0 w (Rdr g s n :: ps)) (hn : n ≤ 2251799813685248) :
    Calls Try.prog 44 #[.pointer (some ⟨g, 0, none⟩)] w (Ret fun _ w' => Own w0 w' (Rdr g s (8 * nbytes n) :: ps)) := by
  unfold Rdr at H
  have c0 := H.cells
  obtain ⟨q, hq⟩ : ∃ q, Hid (q = nbytes n) := ⟨_, Lib.hid rfl⟩
  have hqt : ((n : Int) + 7).tdiv 8 = (q : Int) := by have := hq.out; unfold nbytes at this; rw [Int.tdiv_eq_ediv_of_nonneg (by omega)]; omega
  have hqt' : ((n : Int) + 7) / 8 = (q : Int) := by have := hq.out; unfold nbytes at this; omega
  have hqb : q ≤ 2251799813685248 := by have := hq.out; unfold nbytes at this; omega
  have h8 : Hid ((q : Int) * 8 = ((8 * q : Nat) : Int)) := Lib.hid (by omega)
  go_enter Try.func44, Try.ntmps44
  go_wp2_with (refine wpList_store_int rfl _ _ rfl rfl H rfl (by kernel_rfl) (by simp) ?_; clear H c0; intro w3 H)
  go_end0
  refine ⟨_, rfl, ?_⟩
  rw [← hq.out]
  rw [h8.out] at H
  simpa [Rdr] using H
end Go.Proofs.Ytljejkdkjnbmhaa
/- Bits: Reader.Text. -/
namespace Go.Proofs.Ytljejkdkjnbmhaa
open Go.RowKit

set_option maxHeartbeats 400000 in
theorem rdtext_yes {w0 w : World} {ps : List Piece} {g : Nat} {s : ByteArray} {n : Nat} (m : Nat) (H : Own w0 w (Rdr g s n :: ps)) (hs : s.size ≤ 281474976710656) (hm : nbytes n + m ≤ s.size) :
    Calls Try.prog 45 #[.pointer (some ⟨g, 0, none⟩), .int .i64 m] w (Ret fun v w' => v = .tuple #[.string (s.extract (nbytes n) (nbytes n + m)), .bool true] ∧ Own w0 w' (Rdr g s (8 * (nbytes n + m)) :: ps)) := by
  obtain ⟨z, hz⟩ : ∃ z, Hid (s.size = z) := ⟨_, rfl⟩
  obtain ⟨q, hq⟩ : ∃ q, Hid (q = nbytes n) := ⟨_, Lib.hid rfl⟩
  rw [← hq.out] at hm ⊢
  have hmz : q + m ≤ z := by rw [← hz.out]; exact hm
  have hz3 : z ≤ 281474976710656 := by rw [← hz.out]; exact hs
  have hqt : ((n : Int) + 7).tdiv 8 = (q : Int) := by have := hq.out; unfold nbytes at this; rw [Int.tdiv_eq_ediv_of_nonneg (by omega)]; omega
  have hqt' : ((n : Int) + 7) / 8 = (q : Int) := by have := hq.out; unfold nbytes at this; omega
  have hn : n ≤ 2251799813685248 := by have := hq.out; unfold nbytes at this; omega
  have hle : (m : Int) ≤ (s.size : Int) - (q : Int) := by have := hz.out; omega
  have h8 : Hid (8 * ((q : Int) + (m : Int)) = ((8 * (q + m) : Nat) : Int)) := Lib.hid (by omega)
  unfold Rdr at H
  have c0 := H.cells
  go_enter Try.func45, Try.ntmps45
  go_wp2_with (refine wpList_store_int rfl _ _ rfl rfl H rfl (by kernel_rfl) (by simp) ?_; clear H c0; intro w3 H; have c0 := H.cells)
  go_ret2
  refine ⟨_, rfl, rfl, ?_⟩
  rw [h8.out] at H
  simpa [Rdr] using H
set_option maxHeartbeats 400000 in
theorem rdtext_no {w0 w : World} {ps : List Piece} {g : Nat} {s : ByteArray} {n : Nat} (m : Int) (hm1 : -9223372036854775808 ≤ m) (hm2 : m ≤ 9223372036854775807) (H : Own w0 w (Rdr g s n :: ps)) (hs : s.size ≤ 281474976710656) (hn : n ≤ 2251799813685248) (hno : m < 0 ∨ (s.size : Int) - nbytes n < m) :
    Calls Try.prog 45 #[.pointer (some ⟨g, 0, none⟩), .int .i64 m] w (Ret fun v w' => v = .tuple #[.string ByteArray.empty, .bool false] ∧ Own w0 w' (Rdr g s n :: ps)) := by
  obtain ⟨q, hq⟩ : ∃ q, Hid (q = nbytes n) := ⟨_, Lib.hid rfl⟩
  rw [← hq.out] at hno
  have hqt : ((n : Int) + 7).tdiv 8 = (q : Int) := by have := hq.out; unfold nbytes at this; rw [Int.tdiv_eq_ediv_of_nonneg (by omega)]; omega
  have hqt' : ((n : Int) + 7) / 8 = (q : Int) := by have := hq.out; unfold nbytes at this; omega
  have hqb : q ≤ 281474976710656 := by have := hq.out; unfold nbytes at this; omega
  have H0 := H
  unfold Rdr at H
  have c0 := H.cells
  go_enter Try.func45, Try.ntmps45
  by_cases h1 : m < 0
  · go_wp2
    go_ret2
    exact ⟨_, rfl, rfl, H0⟩
  have h2 : (s.size : Int) - (q : Int) < m := by omega
  clear hno
  go_wp2
  go_ret2
  exact ⟨_, rfl, rfl, H0⟩
theorem rdtext_any {w0 w : World} {ps : List Piece} {g : Nat} {s : ByteArray} {n : Nat} (m : Int) (hm : -9223372036854775808 ≤ m ∧ m ≤ 9223372036854775807) (H : Own w0 w (Rdr g s n :: ps)) (hs : s.size ≤ 1000000) (hn : n ≤ 8 * s.size) :
    Calls Try.prog 45 #[.pointer (some ⟨g, 0, none⟩), .int .i64 m] w (Ret fun v w' => v = .tuple #[.string (txV s n m), .bool (decide (txOk s n m))] ∧ Own w0 w' (Rdr g s (txN s n m) :: ps)) := by
  by_cases h : txOk s n m
  · have h' := h
    unfold txOk at h'
    obtain ⟨k, rfl⟩ : ∃ k : Nat, m = k := ⟨m.toNat, by omega⟩
    have := rdtext_yes k H (by omega) (by omega)
    simpa [txV, txN, h] using this
  · have h' := h
    unfold txOk at h'
    have := rdtext_no m hm.1 hm.2 H (by omega) (by omega) (by omega)
    simpa [txV, txN, h] using this
end Go.Proofs.Ytljejkdkjnbmhaa
/- stream: a part; the walks of ok, fail, take, sym. -/
namespace Go.Proofs.Ytljejkdkjnbmhaa
open Go.RowKit

def shF (e : Int) : Bool := decide (e = -1)
def erF (e : Int) : Int := if e = -1 then 0 else e
/-- A part: of a text, n bits taken; its state. -/
def Prt (g rg : Nat) (s : ByteArray) (n : Nat) (e : Int) : Piece :=
  star (blk g (.cells #[.pointer (some ⟨rg, 0, none⟩), .bool (shF e), .int .i64 (erF e)] 45)) (Rdr rg s n)
theorem Own.prt {w0 w : World} {ps : List Piece} {g rg : Nat} {s : ByteArray} {n : Nat} {e : Int} (H : Own w0 w (Prt g rg s n e :: ps)) :
    Own w0 w (blk g (.cells #[.pointer (some ⟨rg, 0, none⟩), .bool (shF e), .int .i64 (erF e)] 45) :: Rdr rg s n :: ps) := H.star
theorem Own.unprt {w0 w : World} {ps : List Piece} {g rg : Nat} {s : ByteArray} {n : Nat} {e : Int} (H : Own w0 w (blk g (.cells #[.pointer (some ⟨rg, 0, none⟩), .bool (shF e), .int .i64 (erF e)] 45) :: Rdr rg s n :: ps)) : Own w0 w (Prt g rg s n e :: ps) := Own.unstar H
theorem se_zero : shF 0 = false ∧ erF 0 = 0 := ⟨rfl, rfl⟩
theorem se_ran : shF (-1) = true ∧ erF (-1) = 0 := ⟨rfl, rfl⟩
theorem se_bad {e : Int} (h : e ≠ -1) : shF e = false ∧ erF e = e := ⟨decide_eq_false h, if_neg h⟩

set_option maxHeartbeats 800000 in
theorem ptok_any {w0 w : World} {ps : List Piece} {g rg n : Nat} {s : ByteArray} {e : Int} (H : Own w0 w (Prt g rg s n e :: ps)) :
    Calls Try.prog 23 #[.pointer (some ⟨g, 0, none⟩)] w fun r w' => r = .returned (.bool (decide (e = 0))) ∧ w' = w := by
  have H1 := H.prt
  by_cases h1 : e = -1
  · subst h1
    rw [se_ran.1, se_ran.2] at H1
    have c0 := H1.cells
    go_enter Try.func23, Try.ntmps23
    go_wp2
    go_ret
    exact ⟨rfl, rfl⟩
  · rw [(se_bad h1).1, (se_bad h1).2] at H1
    have c0 := H1.cells
    obtain ⟨b, hb⟩ : ∃ b, Hid (decide (e = 0) = b) := ⟨_, rfl⟩
    have hb2 : (e == 0) = b := by rw [← hb.out]; rfl
    rw [hb.out]
    go_enter Try.func23, Try.ntmps23
    go_wp2
    go_ret
    exact ⟨rfl, rfl⟩
set_option maxHeartbeats 800000 in
theorem ptfail_any {w0 w : World} {ps : List Piece} {g rg n : Nat} {s : ByteArray} {e : Int} (H : Own w0 w (Prt g rg s n e :: ps)) :
    Calls Try.prog 28 #[.pointer (some ⟨g, 0, none⟩)] w (Ret fun _ w' => Own w0 w' (Prt g rg s n (if e = 0 then 2 else e) :: ps)) := by
  have HK := Lib.hid (ptok_any H)
  by_cases h : e = 0
  · subst h
    rw [if_pos rfl]
    rw [decide_eq_true rfl] at HK
    have H1 := H.prt
    rw [se_zero.1, se_zero.2] at H1
    go_enter Try.func28, Try.ntmps28
    go_wp2_with fail
    refine HK.out.mono ?_
    rintro e1 w1 ⟨rfl, rfl⟩
    have c0 := H1.cells
    go_wp2_with (refine wpList_store_int rfl _ _ rfl rfl H1 rfl (by kernel_rfl) (by simp) ?_; clear H1 c0; intro w3 H1)
    go_end0
    exact ⟨_, rfl, Own.unprt (e := 2) H1⟩
  · rw [if_neg h]
    rw [decide_eq_false h] at HK
    go_enter Try.func28, Try.ntmps28
    go_wp2_with fail
    refine HK.out.mono ?_
    rintro e1 w1 ⟨rfl, rfl⟩
    go_wp2
    go_end0
    exact ⟨_, rfl, H⟩
set_option maxHeartbeats 800000 in
theorem pttake_any {w0 w : World} {ps : List Piece} {g rg n : Nat} {s : ByteArray} {e : Int} (k : Nat) (hk : k ≤ 16) (H : Own w0 w (Prt g rg s n e :: ps)) (hs : s.size ≤ 1000000) (hn : n ≤ 8 * s.size) :
    Calls Try.prog 14 #[.pointer (some ⟨g, 0, none⟩), .int .i64 k] w (Ret fun r w' => r = .int .i64 (ptV s n k e) ∧ Own w0 w' (Prt g rg s (ptN s n k e) (ptE s n k e) :: ps)) := by
  have HK := Lib.hid (ptok_any H)
  by_cases he : e = 0
  · subst he
    rw [ptV_zero, ptN_zero]
    unfold ptE
    rw [decide_eq_true rfl] at HK
    have H1 := H.prt
    rw [se_zero.1, se_zero.2] at H1
    have HT := Lib.hid (take_any (g := rg) k (by omega) H1.swap hs hn)
    generalize tkV s n k = V at *
    generalize tkN s n k = M at *
    obtain ⟨b, hb⟩ : ∃ b, Hid (decide (tkOk s n (k : Int)) = b) := ⟨_, rfl⟩
    rw [hb.out] at HT
    obtain ⟨E, hE⟩ : ∃ E : Int, Hid ((if tkOk s n (k : Int) then (0 : Int) else if (0 : Int) = 0 then -1 else 0) = E) := ⟨_, rfl⟩
    have hEb : Hid (b = true ∧ E = 0 ∨ b = false ∧ E = -1) := Lib.hid (by
      rw [← hb.out, ← hE.out]
      by_cases h : tkOk s n (k : Int)
      · left; rw [if_pos h, decide_eq_true h]; exact ⟨rfl, rfl⟩
      · right; rw [if_neg h, if_pos rfl, decide_eq_false h]; exact ⟨rfl, rfl⟩)
    rw [hE.out]
    go_enter Try.func14, Try.ntmps14
    go_wp2_with fail
    refine HK.out.mono ?_
    rintro e1 w1 ⟨rfl, rfl⟩
    have c0 := H1.cells
    go_wp2_with fail
    refine HT.out.mono ?_
    rintro e1 w2 ⟨_, rfl, rfl, H2⟩
    have H3 := H2.swap
    clear H1 H2 HT HK c0 H
    have c0 := H3.cells
    go_wp2_with (refine wpList_store_bool rfl _ _ rfl rfl H3 rfl (by kernel_rfl) (by simp) ?_; clear H3 c0; intro w3 H3)
    go_ret
    refine ⟨_, rfl, rfl, Own.unprt ?_⟩
    rcases hEb.out with ⟨rfl, rfl⟩ | ⟨rfl, rfl⟩
    · exact H3
    · exact H3
  · rw [ptV_ne he, ptN_ne he, ptE_ne he]
    rw [decide_eq_false he] at HK
    go_enter Try.func14, Try.ntmps14
    go_wp2_with fail
    refine HK.out.mono ?_
    rintro e1 w1 ⟨rfl, rfl⟩
    go_wp2
    go_ret
    exact ⟨_, rfl, rfl, H⟩
/-- What a symbol's taking yields. -/
def PSymP (w0 : World) (ps : List Piece) (g rg : Nat) (s : ByteArray) (n : Nat) (l : List Int) (e : Int) (r : Value) (w' : World) : Prop :=
  ∃ x n' e', r = .int .i64 x ∧ 0 ≤ x ∧ x ≤ 1000000 ∧ n' ≤ 8 * s.size ∧ (e ≠ 0 → e' = e ∧ x = 0) ∧ (e = 0 → GotS (symG (textBits s) l n) x n' e') ∧ Own w0 w' (Prt g rg s n' e' :: ps)
set_option maxRecDepth 100000 in
set_option maxHeartbeats 1600000 in
theorem ptsym_any {w0 w : World} {ps : List Piece} {g rg t n : Nat} {l : List Int} {s : ByteArray} {e : Int} (hT : TabOk l) (hs : s.size ≤ 1000000) (hn : n ≤ 8 * s.size) (H : Own w0 w (Prt g rg s n e :: Tbl t l :: ps)) :
    Calls Try.prog 25 #[.pointer (some ⟨g, 0, none⟩), .pointer (some ⟨t, 0, none⟩)] w (Ret fun r w' => PSymP w0 (Tbl t l :: ps) g rg s n l e r w') := by
  have HK := Lib.hid (ptok_any H)
  by_cases he : e = 0
  case neg =>
    rw [decide_eq_false he] at HK
    go_enter Try.func25, Try.ntmps25
    go_wp2_with fail
    refine HK.out.mono ?_
    rintro e1 w1 ⟨rfl, rfl⟩
    go_wp2
    go_ret
    exact ⟨_, rfl, show PSymP _ _ _ _ _ _ _ _ _ _ from ⟨0, n, e, rfl, by omega, by omega, hn, fun _ => ⟨rfl, rfl⟩, fun h => absurd h he, H⟩⟩
  subst he
  rw [decide_eq_true rfl] at HK
  have H1 := H.prt
  rw [se_zero.1, se_zero.2] at H1
  have HD := Lib.hid (decode_any (g := t) (rg := rg) hT.all hT.wt hT.len (by omega) hn ((H1.front 2 rfl).front 2 rfl))
  have hg := Lib.hid (sym_gotS (l := l) (bs := textBits s) (n := n))
  have hu := decN_used (l := l) 15 0 0 ((textBits s).drop n)
  have hxb : 0 ≤ (decF l ((textBits s).drop n)).1 ∧ (decF l ((textBits s).drop n)).1 ≤ 1000000 := by
    have h1 := dec_bd l 15 0 0 ((textBits s).drop n)
    have h2 := hT.len
    unfold decF
    omega
  have hN : n + (decF l ((textBits s).drop n)).2.2 ≤ 8 * s.size := by
    rw [List.length_drop, textBits_length] at hu
    unfold decF
    omega
  have hx2 : (decF l ((textBits s).drop n)).2.1 = 0 ∨ (decF l ((textBits s).drop n)).2.1 = 2 := dec_e' l 15 0 0 _
  have HU := Lib.hid (used_any H1.swap)
  clear hu
  obtain ⟨x1, x2, x3, hD⟩ : ∃ x1 x2 x3, Hid (decF l ((textBits s).drop n) = (x1, x2, x3)) := ⟨_, _, _, rfl⟩
  rw [hD.out] at HD hg hN hxb hx2
  simp only at hN hxb hx2
  clear hD
  obtain ⟨M, hM⟩ : ∃ M, Hid (n + x3 = M) := ⟨_, rfl⟩
  have hg2 := hg.out
  simp only at hg2
  rw [hM.out] at HD hN hg2
  have hM3 : IntKind.i64.wrap ((M : Int) - (n : Int)) = (x3 : Int) := by have := hM.out; rw [show (M : Int) - (n : Int) = x3 by omega]; exact IntWalk.i64_in _ ⟨by omega, by omega⟩
  replace hg2 := Lib.hid hg2
  clear hM hg
  go_enter Try.func25, Try.ntmps25
  go_wp2_with fail
  refine HK.out.mono ?_
  rintro e1 w1 ⟨rfl, rfl⟩
  have c0 := H1.cells
  go_wp2_with fail
  refine HU.out.mono ?_
  rintro e1 w1 ⟨rfl, rfl⟩
  go_wp2_with fail
  refine HD.out.mono ?_
  rintro e1 w2 ⟨_, rfl, rfl, H2⟩
  clear HK HU HD H c0 H1
  replace H2 : Own w0 w2 (blk g (.cells #[.pointer (some ⟨rg, 0, none⟩), .bool false, .int .i64 0] 45) :: Rdr rg s M :: Tbl t l :: ps) := H2.front 2 rfl
  have HU2 := Lib.hid (used_any H2.swap)
  have c0 := H2.cells
  have hxd : (x2 != 0) = true ∧ x2 = 2 ∨ (x2 != 0) = false ∧ x2 = 0 := by
    rcases hx2 with h | h
    · right; subst h; exact ⟨rfl, rfl⟩
    · left; subst h; exact ⟨rfl, rfl⟩
  clear hx2
  rcases hxd with ⟨hxb2, rfl⟩ | ⟨hxb2, rfl⟩
  · clear hxb2
    by_cases hlt : x3 < 15
    · have hltI : (x3 : Int) < 15 := by omega
      rw [if_pos ⟨by decide, hlt⟩] at hg2
      go_wp2_with fail
      refine HU2.out.mono ?_
      rintro e1 w3 ⟨rfl, rfl⟩
      go_wp2_with (refine wpList_store_bool rfl _ _ rfl rfl H2 rfl (by kernel_rfl) (by simp) ?_; clear H2 c0; intro w3 H2)
      go_ret
      exact ⟨_, rfl, show PSymP _ _ _ _ _ _ _ _ _ _ from ⟨x1, M, -1, rfl, hxb.1, hxb.2, hN, fun h => absurd rfl h, fun _ => hg2.out, Own.unprt H2⟩⟩
    · have hltI : ¬ (x3 : Int) < 15 := by omega
      rw [if_neg (fun h => hlt h.2)] at hg2
      go_wp2_with fail
      refine HU2.out.mono ?_
      rintro e1 w3 ⟨rfl, rfl⟩
      go_wp2_with (refine wpList_store_int rfl _ _ rfl rfl H2 rfl (by kernel_rfl) (by simp) ?_; clear H2 c0; intro w3 H2)
      go_ret
      exact ⟨_, rfl, show PSymP _ _ _ _ _ _ _ _ _ _ from ⟨x1, M, 2, rfl, hxb.1, hxb.2, hN, fun h => absurd rfl h, fun _ => hg2.out, Own.unprt (e := 2) H2⟩⟩
  · rw [if_neg (fun h => h.1 rfl)] at hg2
    go_wp2_with (refine wpList_store_int rfl _ _ rfl rfl H2 rfl (by kernel_rfl) (by simp) ?_; clear H2 c0; intro w3 H2)
    go_ret
    exact ⟨_, rfl, show PSymP _ _ _ _ _ _ _ _ _ _ from ⟨x1, M, 0, rfl, hxb.1, hxb.2, hN, fun h => absurd rfl h, fun _ => hg2.out, Own.unprt (e := 0) H2⟩⟩
end Go.Proofs.Ytljejkdkjnbmhaa
/- As XCalm: of the operations in 'tw', whose values are known, too, S is told when they were done. No program in sight. (Written by tools/trk.py.) -/
namespace Go.Proofs.Ytljejkdkjnbmhaa.Trk
open Go.RowKit

def trk (tw : List Nat) (i : Nat) (v : Value) (σ : Sig) : Sig := if i ∈ tw then σ.upd i v else σ
/-- In every world that meets S the operation yields v, and S holds behind it. -/
def Calm1 (P : Program) (S : Sig → World → Prop) (tw : List Nat) (i : Nat) (o : Oper) (a : Act) (v : Value) : Prop :=
  ∀ σ w, S σ w → (i ∈ tw → σ i = none) → ∀ (K : Act → World → Prop) (Q : Exit → Act → World → Prop), (∀ w', S (trk tw i v σ) w' → K (a.put o.dst v) w') → o.wp P a w K Q

def calm (P : Program) (ops : Array Oper) (S : Sig → World → Prop) (nw tw : List Nat) (R : Act → Prop) : Nat → List Oper → Act → Prop
  | _, [], a => R a
  | i, o :: rest, a => (i ∈ nw ∧ New1 P S i o a ∧ calm P ops S nw tw R (i + 1) rest a) ∨
      (i ∉ nw ∧ Region.wanted o (yielded ops a.tmps) = true ∧ ∃ v, Calm1 P S tw i o a v ∧ calm P ops S nw tw R (i + 1) rest (a.put o.dst v)) ∨
      (i ∉ nw ∧ Region.wanted o (yielded ops a.tmps) = false ∧ calm P ops S nw tw R (i + 1) rest (a.put o.dst undef))

section
variable {P : Program} {ops : Array Oper} {S : Sig → World → Prop} {nw tw : List Nat} {R : Act → Prop} {a : Act} {o : Oper} {rest : List Oper} {i : Nat}
theorem calm_nil (h : R a) : calm P ops S nw tw R i [] a := h
theorem calm_step (v : Value) (hi : i ∉ nw) (hw : Region.wanted o (yielded ops a.tmps) = true)
    (h1 : ∀ σ w, S σ w → (i ∈ tw → σ i = none) → ∀ (K : Act → World → Prop) (Q : Exit → Act → World → Prop), (∀ w', S (trk tw i v σ) w' → K (a.put o.dst v) w') → o.wp P a w K Q) (h : calm P ops S nw tw R (i + 1) rest (a.put o.dst v)) : calm P ops S nw tw R i (o :: rest) a := .inr (.inl ⟨hi, hw, v, h1, h⟩)
end

section
variable {P : Program} {ops : Array Oper} {S : Sig → World → Prop} {nw tw : List Nat}
theorem calm_frames {R : Act → Prop} : ∀ (l : List Oper) (i : Nat) (a : Act), calm P ops S nw tw R i l a →
    ∃ vs : List Value, vs.length = l.length ∧ R (frames ((dets nw i l).zip vs) a) ∧
      ∀ k o, l[k]? = some o → ∃ v, vs[k]? = some v ∧
        ((i + k ∈ nw ∧ New1 P S (i + k) o (frames (((dets nw i l).zip vs).take k) a)) ∨
         (i + k ∉ nw ∧ Region.wanted o (yielded ops (frames (((dets nw i l).zip vs).take k) a).tmps) = true ∧ Calm1 P S tw (i + k) o (frames (((dets nw i l).zip vs).take k) a) v) ∨
         (i + k ∉ nw ∧ Region.wanted o (yielded ops (frames (((dets nw i l).zip vs).take k) a).tmps) = false ∧ v = undef)) := by
  intro l
  induction l with
  | nil => intro i a h; exact ⟨[], rfl, h, fun k o hk => by simp at hk⟩
  | cons o l ih =>
    intro i a h
    have step : ∀ (v : Value) (a' : Act), a' = a.put (if i ∈ nw then none else o.dst) v → calm P ops S nw tw R (i + 1) l a' →
        ((i ∈ nw ∧ New1 P S i o a) ∨ (i ∉ nw ∧ Region.wanted o (yielded ops a.tmps) = true ∧ Calm1 P S tw i o a v) ∨ (i ∉ nw ∧ Region.wanted o (yielded ops a.tmps) = false ∧ v = undef)) → ∃ vs : List Value, vs.length = (o :: l).length ∧ R (frames ((dets nw i (o :: l)).zip vs) a) ∧
      ∀ k o', (o :: l)[k]? = some o' → ∃ v, vs[k]? = some v ∧
        ((i + k ∈ nw ∧ New1 P S (i + k) o' (frames (((dets nw i (o :: l)).zip vs).take k) a)) ∨
         (i + k ∉ nw ∧ Region.wanted o' (yielded ops (frames (((dets nw i (o :: l)).zip vs).take k) a).tmps) = true ∧ Calm1 P S tw (i + k) o' (frames (((dets nw i (o :: l)).zip vs).take k) a) v) ∨
         (i + k ∉ nw ∧ Region.wanted o' (yielded ops (frames (((dets nw i (o :: l)).zip vs).take k) a).tmps) = false ∧ v = undef)) := by
      intro v a' ha hc h0
      obtain ⟨vs, hl, hR, hk⟩ := ih _ _ hc
      refine ⟨v :: vs, by simp [hl], by rw [ha] at hR; exact hR, fun k o' hk' => ?_⟩
      cases k with
      | zero => simp at hk'; subst hk'; exact ⟨v, rfl, h0⟩
      | succ k =>
        have := hk k o' (by simpa using hk')
        rw [ha, show i + 1 + k = i + (k + 1) by omega] at this
        exact this
    rcases h with ⟨hi, h1, h2⟩ | ⟨hi, hw, v, h1, h2⟩ | ⟨hi, hw, h2⟩
    · exact step undef a (by rw [if_pos hi]; rfl) h2 (.inl ⟨hi, h1⟩)
    · exact step v _ (by rw [if_neg hi]) h2 (.inr (.inl ⟨hi, hw, h1⟩))
    · exact step undef _ (by rw [if_neg hi]) h2 (.inr (.inr ⟨hi, hw, rfl⟩))

theorem Calm1.at {tw : List Nat} {i : Nat} {o : Oper} {a a' : Act} {v : Value} (h : Calm1 P S tw i o a v) (he : execOp a'.eval o = execOp a.eval o) (hs : a.tmps.size = a'.tmps.size) {σ : Sig} {w : World} (hw : S σ w) (hfr : i ∈ tw → σ i = none)
    (K : Act → World → Prop) (Q : Exit → Act → World → Prop) (hK : ∀ w', S (trk tw i v σ) w' → K (a'.put o.dst v) w') : o.wp P a' w K Q := by
  have h1 := h σ w hw hfr (fun a1 w1 => a1 = a.put o.dst v ∧ S (trk tw i v σ) w1) (fun _ _ _ => False) (fun w' hw' => ⟨rfl, hw'⟩)
  unfold Oper.wp at *
  rw [he]
  generalize (execOp a.eval o).run P w = r at *
  cases r with
  | ok n w' =>
    cases n <;> simp only [Oper.upon] at h1 ⊢
    case value u => rw [put_eq hs h1.1]; exact hK _ h1.2
    case skip => rw [put_eq hs h1.1]; exact hK _ h1.2
    case defer d =>
      have := congrArg (fun x => x.defers.length) h1.1
      cases hd : o.dst <;> simp [Act.put, hd] at this
    case enter f args =>
      refine Calls.mono h1 fun e w'' he => ?_
      cases e with
      | returned u =>
        show K (a'.put o.dst u) w''
        rw [put_eq hs he.1]; exact hK _ he.2
      | panicked c => exact he.elim
      | outgrown => obtain ⟨_, _, hh⟩ := he; exact hh.elim
    case row row args => exact Rows.mono h1 fun u w'' he => by rw [put_eq hs he.1]; exact hK _ he.2
  | halt x w' => cases x <;> simp only [Oper.upon] at h1 ⊢
theorem wpAny_new {Q : Exit → Act → World → Prop} {a a0 : Act} {w : World} {l : List Oper} (S : Sig → World → Prop) (n : Nat) (nw tw : List Nat) (pre : List Nat) (htw : ∀ k ∈ tw, k < n ∧ k ∉ nw ∧ k ∉ pre ∧ ∀ o, l[k]? = some o → o.guard = none) (hok : calmOk l.toArray n nw pre = true) (hS : S Sig.no w)
    (h : calm P l.toArray S nw tw (fun a' => ∀ σ w', (∀ k ∈ nw, (σ k).isSome = true) → (∀ k ∈ tw, (σ k).isSome = true) → S σ w' → wpList P l.toArray Q (l.drop n) (putNew l nw σ a') w') 0 (l.take n) a)
    (listed0 : Array Bool) (hs0 : listed0.size = l.length) (hl0 : ∀ k, k < l.length → listed0.getD k true = true → k ∈ pre) (hp0 : ∀ p ∈ pre, listed0.getD p true = true)
    (ha0 : PreRun P l pre a a0) :
    wpAny P .any l.toArray Q (left listed0) listed0 a0 w := by
  have g := good_of hok
  have hnl : n ≤ l.length := by simpa using g.le
  obtain ⟨vs, hvl, hR, hk⟩ := calm_frames _ _ _ h
  have hvn : vs.length = n := by simp [hvl, hnl]
  obtain ⟨D, hD⟩ : ∃ D, (dets nw 0 (l.take n)).zip vs = D := ⟨_, rfl⟩
  rw [hD] at hR hk
  simp only [Nat.zero_add] at hk
  have hDl : D.length = n := by rw [← hD]; simp [dets_length, hvn, hnl]
  have hget : ∀ k, k < n → (dets nw 0 (l.take n))[k]? = (l[k]?).map fun o => if k ∈ nw then none else o.dst := by
    intro k hk
    rw [dets_get]
    simp [hk]
  -- the k-th of D
  have hDk : ∀ (k : Nat) (o : Oper) (v : Value), k < n → k ∉ nw → l[k]? = some o → vs[k]? = some v → D[k]? = some (o.dst, v) := by
    intro k o v hkn hnk ho hv
    rw [← hD, List.getElem?_zip_eq_some]
    refine ⟨?_, hv⟩
    rw [hget k hkn, ho]
    simp [hnk]
  have hDd : ∀ (k : Nat) (t : Tmp) (v : Value), D[k]? = some (some t, v) → k < n ∧ k ∉ nw ∧ ∃ o, l[k]? = some o ∧ o.dst = some t := by
    intro k t v hk
    have hkn : k < n := by rw [← hDl]; exact (List.getElem?_eq_some_iff.1 hk).1
    rw [← hD, List.getElem?_zip_eq_some] at hk
    obtain ⟨h1, _⟩ := hk
    rw [hget k hkn, Option.map_eq_some_iff] at h1
    obtain ⟨o, ho, hd⟩ := h1
    by_cases hnk : k ∈ nw
    · simp [hnk] at hd
    · rw [if_neg hnk] at hd
      exact ⟨hkn, hnk, o, ho, hd⟩
  have huniq : ∀ (j k : Nat) (t : Tmp) (u v : Value), k ≠ j → D[k]? = some (some t, u) → D[j]? ≠ some (some t, v) := by
    intro j k t u v hkj h1 h2
    obtain ⟨hkn, _, ok, hok', hdk⟩ := hDd k _ u h1
    obtain ⟨hjn, _, oj, hoj, hdj⟩ := hDd j _ v h2
    exact (g.pair k j ok oj t hkn hjn hkj (by simpa using hok') (by simpa using hoj) hdk).1 hdj
  -- .. with the new ones' values
  obtain ⟨F, hF⟩ : ∃ F : Sig → Nat → Option (Option Tmp × Value), ∀ σ k, F σ k = if k ∈ nw then (l[k]?).map fun o => (o.dst, (σ k).getD undef) else D[k]? := ⟨_, fun _ _ => rfl⟩
  have hFd : ∀ (σ : Sig) (k : Nat) (t : Tmp) (v : Value), F σ k = some (some t, v) → k < n ∧ ∃ o, l[k]? = some o ∧ o.dst = some t := by
    intro σ k t v hk
    rw [hF] at hk
    by_cases hnk : k ∈ nw
    · rw [if_pos hnk, Option.map_eq_some_iff] at hk
      obtain ⟨o, ho, hd⟩ := hk
      exact ⟨g.newLt k hnk, o, ho, by simp at hd; exact hd.1⟩
    · rw [if_neg hnk] at hk
      obtain ⟨h1, _, h3⟩ := hDd k t v hk
      exact ⟨h1, h3⟩
  have hFu : ∀ (σ : Sig) (j k : Nat) (t : Tmp) (u v : Value), k ≠ j → F σ k = some (some t, u) → F σ j ≠ some (some t, v) := by
    intro σ j k t u v hkj h1 h2
    obtain ⟨hkn, ok, hok', hdk⟩ := hFd σ k _ u h1
    obtain ⟨hjn, oj, hoj, hdj⟩ := hFd σ j _ v h2
    exact (g.pair k j ok oj t hkn hjn hkj (by simpa using hok') (by simpa using hoj) hdk).1 hdj
  have hend : ∀ (E : Nat → Prop) (a' : Act) (σ : Sig), (∀ k, k < n → E k) → Agree (F σ) E a a' → a' = putNew l nw σ (frames D a) := by
    intro E a' σ hall hA
    have hB := agree_frames D huniq a n (by omega)
    rw [List.take_of_length_le (by omega)] at hB
    obtain ⟨k1, k2⟩ := putNew_keeps l σ nw (frames D a)
    refine act_ext ?_ (hA.defers.trans (hB.defers.symm.trans k1.symm))
    apply Array.ext_getElem?
    intro t
    by_cases hts : t < a.tmps.size
    · by_cases hw : ∃ (k : Nat) (v : Value), F σ k = some (some t, v)
      · obtain ⟨k, v, hkv⟩ := hw
        obtain ⟨hkn, o, ho, hd⟩ := hFd σ k _ v hkv
        rw [hA.wrote k t v (hall k hkn) hkv hts]
        have hkv' := hkv
        rw [hF] at hkv
        by_cases hnk : k ∈ nw
        · rw [if_pos hnk, ho] at hkv
          simp at hkv
          rw [putNew_new l σ t k nw _ hnk (by simp [ho, hd]) (fun j hj hdj => ?_) (by rw [hB.size]; exact hts), hkv.2]
          by_cases hjk : j = k
          · exact hjk
          · exfalso
            cases hlj : l[j]? with
            | none => rw [hlj] at hdj; cases hdj
            | some oj =>
              rw [hlj] at hdj
              refine hFu σ j k t v ((σ j).getD undef) (Ne.symm hjk) hkv' ?_
              rw [hF, if_pos hj, hlj]
              simp at hdj
              simp [hdj]
        · rw [if_neg hnk] at hkv
          rw [putNew_old l σ t nw _ fun j hj hdj => ?_, hB.wrote k t v hkn hkv hts]
          cases hlj : l[j]? with
          | none => rw [hlj] at hdj; cases hdj
          | some oj =>
            rw [hlj] at hdj
            refine hFu σ j k t v ((σ j).getD undef) (fun e => hnk (e ▸ hj)) hkv' ?_
            rw [hF, if_pos hj, hlj]
            simp at hdj
            simp [hdj]
      · rw [hA.kept t fun k v _ hkv => hw ⟨k, v, hkv⟩, putNew_old l σ t nw _ fun j hj hdj => ?_, hB.kept t fun k v _ hkv => ?_]
        · obtain ⟨_, hnk, _⟩ := hDd k t v hkv
          exact hw ⟨k, v, by rw [hF, if_neg hnk]; exact hkv⟩
        · cases hlj : l[j]? with
          | none => rw [hlj] at hdj; cases hdj
          | some oj =>
            rw [hlj] at hdj
            refine hw ⟨j, (σ j).getD undef, ?_⟩
            rw [hF, if_pos hj, hlj]
            simp at hdj
            simp [hdj]
    · rw [Array.getElem?_eq_none (show a'.tmps.size ≤ t from by rw [hA.size]; exact Nat.le_of_not_lt hts), Array.getElem?_eq_none (show (putNew l nw σ (frames D a)).tmps.size ≤ t from by rw [k2, hB.size]; exact Nat.le_of_not_lt hts)]
  have main : ∀ (fuel : Nat) (listed : Array Bool) (a' : Act) (w' : World) (σ : Sig), listed.size = l.length → left listed = fuel → (∀ j, n ≤ j → j < l.length → listed.getD j true = false) →
      (∀ k o, k < l.length → listed.getD k true = true → l[k]? = some o → ∀ e ∈ o.after, Region.binds .any e = true → listed.getD e.on false = true) →
      (∀ k ∈ nw, listed.getD k true = true → (σ k).isSome = true) → (∀ k ∈ tw, (listed.getD k true = true → (σ k).isSome = true) ∧ (listed.getD k true = false → σ k = none)) → (∀ p ∈ pre, listed.getD p true = true) →
      Agree (F σ) (fun k => k < n ∧ listed.getD k true = true) a a' → S σ w' → wpAny P .any l.toArray Q fuel listed a' w' := by
    intro fuel
    induction fuel with
    | zero =>
      intro listed a' w' σ hs hl ht hc hσ hτ hP hA hSw
      have hall : ∀ k, k < l.length → listed.getD k true = true := fun k hk => by
        cases hkk : listed.getD k true with
        | true => rfl
        | false => have := left_pos (j := k) (by omega) hkk; omega
      have hn : n = l.length := by
        rcases Nat.lt_or_ge n l.length with h | h
        · have := hall n h; rw [ht n (Nat.le_refl _) h] at this; cases this
        · omega
      refine tail_any g 0 n listed a' w' hs (Nat.le_refl _) (fun k _ hk => hall k hk) ht hl ?_
      rw [hend _ a' σ (fun k hk => ⟨hk, hall k (by omega)⟩) hA]
      exact hR σ w' (fun k hk => hσ k hk (hall k (by have := g.newLt k hk; omega))) (fun k hk => (hτ k hk).1 (hall k (by have := (htw k hk).1; omega))) hSw
    | succ fuel ih =>
      intro listed a' w' σ hs hl ht hc hσ hτ hP hA hSw
      by_cases hpre : ∀ k, k < n → listed.getD k true = true
      · refine tail_any g (fuel + 1) n listed a' w' hs (Nat.le_refl _) (fun k hk _ => hpre k hk) ht hl ?_
        rw [hend _ a' σ (fun k hk => ⟨hk, hpre k hk⟩) hA]
        exact hR σ w' (fun k hk => hσ k hk (hpre k (g.newLt k hk))) (fun k hk => (hτ k hk).1 (hpre k (htw k hk).1)) hSw
      · -- the least that is not listed is ready
        have hex : ∃ k, k < n ∧ listed.getD k true = false := by
          rcases Classical.em (∃ k, k < n ∧ listed.getD k true = false) with h | h
          · exact h
          · exact absurd (fun k hk => by
              cases hkk : listed.getD k true with
              | true => rfl
              | false => exact absurd ⟨k, hk, hkk⟩ h) hpre
        obtain ⟨m, hm, hmin⟩ : ∃ m, (m < n ∧ listed.getD m true = false) ∧ ∀ k, k < m → listed.getD k true = true := by
          obtain ⟨k, hk⟩ := hex
          induction k using Nat.strongRecOn with
          | _ k ihk =>
            rcases Classical.em (∃ j, j < k ∧ listed.getD j true = false) with ⟨j, hj, hjl⟩ | h
            · exact ihk j hj ⟨by omega, hjl⟩
            · refine ⟨k, hk, fun j hj => ?_⟩
              cases hjj : listed.getD j true with
              | true => rfl
              | false => exact absurd ⟨j, hj, hjj⟩ h
        obtain ⟨om, hom⟩ : ∃ o, l[m]? = some o := ⟨_, List.getElem?_eq_getElem (by omega)⟩
        have hready : m ∈ Region.ready .any l.toArray listed := mem_ready.2 ⟨by simp; omega, hm.2, om, by simpa using hom, fun e he hb => by
          have := g.low m om (by simpa using hom) e he hb
          rw [← getD_tf (by omega)]
          exact hmin _ this⟩
        refine ⟨fun h => (by rw [h] at hready; cases hready), fun i hi => ?_⟩
        obtain ⟨hi1, hi2, o, ho, hi3⟩ := mem_ready.1 hi
        have hi1 : i < l.length := by simpa using hi1
        have hol : l[i]? = some o := by simpa using ho
        have hin : i < n := by
          rcases Nat.lt_trichotomy i n with h | h | h
          · exact h
          · -- all that it waits for, and so all, are listed
            subst h
            have hall : ∀ d k, i - k = d → k < i → listed.getD k true = true := by
              intro d
              induction d using Nat.strongRecOn with
              | _ d ihd =>
                intro k hd hk
                by_cases hpk : k ∈ pre
                · exact hP k hpk
                obtain ⟨j, hkj, hji, oj, hoj, hwj⟩ := g.sink (by simpa using hi1) k hk hpk
                obtain ⟨e, he, hb, heq⟩ := waits_spec hwj
                rw [getD_tf (by omega), ← heq]
                rcases Nat.lt_or_ge j i with hlt | hge
                · have hjl := ihd (i - j) (by omega) j rfl hlt
                  exact hc j oj (by omega) hjl (by simpa using hoj) e he hb
                · have : j = i := by omega
                  subst this
                  rw [ho] at hoj
                  cases hoj
                  exact hi3 e he hb
            have := hall _ m rfl hm.1
            rw [hm.2] at this
            cases this
          · obtain ⟨e, he, hb, heq⟩ := waits_spec (g.chain i o h (by simpa using hol))
            have := hi3 e he hb
            rw [heq, ← getD_tf (by omega), ht (i - 1) (by omega) (by omega)] at this
            cases this
        obtain ⟨v, hv, hcase⟩ := hk i o (by simp [hin, hol])
        have hAi := agree_frames D huniq a i (by omega)
        have hsame := same_op (ops := l.toArray) (o := o) (a := frames (D.take i) a) (a' := a') (g.noSel i o ho) (by
          intro t htl
          by_cases hw : ∃ (k : Nat) (u : Value), F σ k = some (some t, u)
          · obtain ⟨k, u, hku⟩ := hw
            obtain ⟨hkn, ok, hok', hdk⟩ := hFd σ k _ u hku
            have hnk : k ∉ nw := fun hnk => g.newApart k hnk ok t (by simpa using hok') hdk i o hin ho htl
            have hDu : D[k]? = some (some t, u) := by rw [hF, if_neg hnk] at hku; exact hku
            by_cases hts : t < a.tmps.size
            · have hki : k ≠ i := fun e => by
                subst e
                rw [hol] at hok'
                cases hok'
                exact g.own k o t hkn ho hdk htl
              rcases (g.pair k i ok o t hkn hin hki (by simpa using hok') ho hdk).2 with h1 | ⟨hlt, hwt⟩ | ⟨hlt, hwt⟩
              · exact absurd htl h1
              · obtain ⟨e, he, hb, heq⟩ := waits_spec hwt
                have hkl : listed.getD k true = true := by
                  rw [getD_tf (by omega), ← heq]; exact hi3 e he hb
                rw [hA.wrote k t u ⟨hkn, hkl⟩ hku hts, hAi.wrote k t u hlt hDu hts]
              · obtain ⟨e, he, hb, heq⟩ := waits_spec hwt
                have hkl : ¬ listed.getD k true = true := fun hkl => by
                  have := hc k ok (by omega) hkl hok' e he hb
                  rw [heq, ← getD_tf (by omega), hi2] at this
                  cases this
                rw [hA.kept t fun k' u' hk' hD' => ?_, hAi.kept t fun k' u' hk' hD' => ?_]
                · by_cases hkk : k' = k
                  · subst hkk; omega
                  · exact huniq k k' t u' u hkk hD' hDu
                · by_cases hkk : k' = k
                  · subst hkk; exact hkl hk'.2
                  · exact hFu σ k k' t u' u hkk hD' hku
            · rw [Array.getElem?_eq_none (show a'.tmps.size ≤ t from by rw [hA.size]; exact Nat.le_of_not_lt hts), Array.getElem?_eq_none (show (frames (D.take i) a).tmps.size ≤ t from by rw [hAi.size]; exact Nat.le_of_not_lt hts)]
          · rw [hA.kept t fun k v _ hkv => hw ⟨k, v, hkv⟩, hAi.kept t fun k v _ hkv => ?_]
            obtain ⟨_, hnk, _⟩ := hDd k t v hkv
            exact hw ⟨k, v, by rw [hF, if_neg hnk]; exact hkv⟩)
        have hset : ∀ k b, (listed.setIfInBounds i true).getD k b = if k = i then true else listed.getD k b := by
          intro k b
          by_cases hki : k = i
          · subst hki; simp [hs, hi1]
          · have : i ≠ k := Ne.symm hki
            simp [Array.getElem?_setIfInBounds_ne this, hki]
        have next : ∀ (σ' : Sig) (u : Value) w'', F σ' i = some (o.dst, u) → Agree (F σ') (fun k => k < n ∧ listed.getD k true = true) a a' → (∀ k ∈ nw, (listed.setIfInBounds i true).getD k true = true → (σ' k).isSome = true) → (∀ k ∈ tw, ((listed.setIfInBounds i true).getD k true = true → (σ' k).isSome = true) ∧ ((listed.setIfInBounds i true).getD k true = false → σ' k = none)) → S σ' w'' →
            wpAny P .any l.toArray Q fuel (listed.setIfInBounds i true) (a'.put o.dst u) w'' := by
          intro σ' u w'' hFi hA' hσ' hτ' hSw''
          refine ih _ _ w'' σ' (by simpa using hs) (by have := left_set (j := i) (by omega) hi2; omega) ?_ ?_ hσ' hτ' (fun p hp => by rw [hset]; split <;> first | rfl | exact hP p hp) ?_ hSw''
          · intro j hj hjl
            rw [hset, if_neg (by omega)]
            exact ht j hj hjl
          · intro k ok hkl hkt hok' e he hb
            rw [hset]
            split
            · rfl
            · rw [hset] at hkt
              by_cases hki : k = i
              · subst hki
                rw [hol] at hok'
                cases hok'
                exact hi3 e he hb
              · rw [if_neg hki] at hkt
                exact hc k ok hkl hkt hok' e he hb
          · have := hA'.put (j := i) hFi (fun k t u' hki hD' e => hFu σ' i k t u' u hki hD' (by rw [hFi, e]))
            refine ⟨this.defers, this.size, fun k t u hk => this.wrote k t u ?_, fun t ht => this.kept t fun k u hk => ht k u ?_⟩
            · obtain ⟨h1, h2⟩ := hk
              rw [hset] at h2
              by_cases hki : k = i
              · exact .inr hki
              · rw [if_neg hki] at h2; exact .inl ⟨h1, h2⟩
            · rw [hset]
              rcases hk with ⟨h1, h2⟩ | rfl
              · exact ⟨h1, by split <;> first | rfl | exact h2⟩
              · exact ⟨hin, by simp⟩
        have hσset : i ∉ nw → ∀ k ∈ nw, (listed.setIfInBounds i true).getD k true = true → (σ k).isSome = true := fun hni k hk hkl => by
          rw [hset, if_neg (fun (e : k = i) => hni (e ▸ hk))] at hkl
          exact hσ k hk hkl
        have hτset : i ∉ tw → ∀ k ∈ tw, ((listed.setIfInBounds i true).getD k true = true → (σ k).isSome = true) ∧ ((listed.setIfInBounds i true).getD k true = false → σ k = none) := fun hni k hk => by
          rw [hset, if_neg (fun (e : k = i) => hni (e ▸ hk))]
          exact hτ k hk
        unfold wpOp
        simp only [ho]
        rcases hcase with ⟨hni, hn1⟩ | ⟨hni, hw1, hc1⟩ | ⟨hni, hw1, rfl⟩
        · have hg := g.newPlain i hni o ho
          rw [show Region.wanted o (yielded l.toArray a'.tmps) = true by simp [Region.wanted, hg]]
          refine .inl (hn1.at hsame.1 (by rw [hAi.size, hA.size]) hSw _ _ fun u w'' hSu => ?_)
          refine next (σ.upd i u) u w'' (by rw [hF, if_pos hni, hol]; simp [Sig.upd]) ?_ ?_ ?_ hSu
          · have hne : ∀ k, (k < n ∧ listed.getD k true = true) → F (σ.upd i u) k = F σ k := fun k hk => by
              have hki : k ≠ i := fun e => by subst e; rw [hi2] at hk; cases hk.2
              rw [hF, hF]
              simp [Sig.upd, hki]
            exact ⟨hA.defers, hA.size, fun k t u' hk hD' => hA.wrote k t u' hk (by rw [← hne k hk]; exact hD'), fun t ht => hA.kept t fun k u' hk => by rw [← hne k hk]; exact ht k u' hk⟩
          · intro k hk hkl
            by_cases hki : k = i
            · simp [Sig.upd, hki]
            · rw [hset, if_neg hki] at hkl
              simpa [Sig.upd, hki] using hσ k hk hkl
          · intro k hk
            have hki : k ≠ i := fun e => (htw k hk).2.1 (e ▸ hni)
            rw [hset, if_neg hki]
            simpa [Sig.upd, hki] using hτ k hk
        · rw [hsame.2, hw1]
          by_cases hit : i ∈ tw
          · refine .inl (hc1.at hsame.1 (by rw [hAi.size, hA.size]) hSw (fun hit => (hτ i hit).2 hi2) _ _ fun w'' hSu => next (σ.upd i v) v w'' (by rw [hF, if_neg hni]; exact hDk i o v hin hni hol hv) ?_ ?_ ?_ (by rw [trk, if_pos hit] at hSu; exact hSu))
            · have hne : ∀ k, (k < n ∧ listed.getD k true = true) → F (σ.upd i v) k = F σ k := fun k hk => by
                have hki : k ≠ i := fun e => by subst e; rw [hi2] at hk; cases hk.2
                rw [hF, hF]
                simp [Sig.upd, hki]
              exact ⟨hA.defers, hA.size, fun k t u' hk hD' => hA.wrote k t u' hk (by rw [← hne k hk]; exact hD'), fun t ht => hA.kept t fun k u' hk => by rw [← hne k hk]; exact ht k u' hk⟩
            · intro k hk hkl
              by_cases hki : k = i
              · simp [Sig.upd, hki]
              · rw [hset, if_neg hki] at hkl
                simpa [Sig.upd, hki] using hσ k hk hkl
            · intro k hk
              rw [hset]
              by_cases hki : k = i
              · simp [Sig.upd, hki]
              · rw [if_neg hki]
                simpa [Sig.upd, hki] using hτ k hk
          · exact .inl (hc1.at hsame.1 (by rw [hAi.size, hA.size]) hSw (fun hit => (hτ i hit).2 hi2) _ _ fun w'' hSu => next σ v w'' (by rw [hF, if_neg hni]; exact hDk i o v hin hni hol hv) hA (hσset hni) (hτset hit) (by rw [trk, if_neg hit] at hSu; exact hSu))
        · rw [hsame.2, hw1]
          have hit : i ∉ tw := fun hit => by
            have := (htw i hit).2.2.2 o hol
            simp [Region.wanted, this] at hw1
          exact next σ undef w' (by rw [hF, if_neg hni]; exact hDk i o undef hin hni hol hv) hA (hσset hni) (hτset hit) hSw
  refine main _ listed0 a0 w Sig.no hs0 rfl (fun j hnj hj => ?_) (fun k o hk hkt ho e he hb => ?_) (fun k hk hkt => ?_) (fun k hk => ?_) hp0 ?_ hS
  · cases hjj : listed0.getD j true with
    | false => rfl
    | true =>
      have := (g.preAny j (hl0 j hj hjj)).1
      omega
  · obtain ⟨_, _, o', ho', _, haf⟩ := g.preAny k (hl0 k hk hkt)
    obtain rfl : o' = o := by simpa [ho] using ho'.symm
    have := g.low k o' (by simpa using ho) e he hb
    rw [← getD_tf (by omega)]
    exact hp0 _ (haf e he hb)
  · exact absurd hk (g.preAny k (hl0 k (by have := g.newLt k hk; omega) hkt)).2.1
  · exact ⟨fun hkt => absurd (hl0 k (by have := (htw k hk).1; omega) hkt) (htw k hk).2.2.1, fun _ => rfl⟩
  · have step : ∀ (r done : List Nat) (a1 : Act), preOk l.toArray n nw done r = true → PreRun P l r a1 a0 → Agree (F Sig.no) (fun k => k ∈ done) a a1 →
        (∀ k ∈ done, ∀ o, l[k]? = some o → ∀ e ∈ o.after, Region.binds .any e = true → e.on ∈ done) → Agree (F Sig.no) (fun k => k ∈ r ∨ k ∈ done) a a0 := by
      intro r
      induction r with
      | nil =>
        intro done a1 _ hr hA _
        obtain rfl : a0 = a1 := hr
        simpa using hA
      | cons p r ih =>
        intro done a1 hpo hr hA hcl
        obtain ⟨hpn, hpw, hpd, ⟨o, hop, hgd, haf⟩, hpo'⟩ := preOk_cons hpo
        have hop : l[p]? = some o := by simpa using hop
        obtain ⟨o', v, ho', hrun, hr'⟩ := hr
        obtain rfl : o' = o := by simpa [hop] using ho'.symm
        obtain ⟨u, hu, hcase⟩ := hk p o' (by simp [hpn, hop])
        have hAi := agree_frames D huniq a p (by omega)
        have hsame := same_op (ops := l.toArray) (o := o') (a := a1) (a' := frames (D.take p) a) (g.noSel p o' (by simpa using hop)) (by
          intro t htl
          by_cases hts : t < a.tmps.size
          · by_cases hw : ∃ (k : Nat) (u : Value), F Sig.no k = some (some t, u)
            · obtain ⟨k, x, hkx⟩ := hw
              obtain ⟨hkn, ok, hok', hdk⟩ := hFd Sig.no k _ x hkx
              have hnk : k ∉ nw := fun hnk => g.newApart k hnk ok t (by simpa using hok') hdk p o' hpn (by simpa using hop) htl
              have hDu : D[k]? = some (some t, x) := by rw [hF, if_neg hnk] at hkx; exact hkx
              have hkp : k ≠ p := fun e => by
                subst e
                rw [hop] at hok'
                cases hok'
                exact g.own k o' t hkn (by simpa using hop) hdk htl
              rcases (g.pair k p ok o' t hkn hpn hkp (by simpa using hok') (by simpa using hop) hdk).2 with h1 | ⟨hlt, hwt⟩ | ⟨hlt, hwt⟩
              · exact absurd htl h1
              · obtain ⟨e, he, hb, heq⟩ := waits_spec hwt
                have hkd : k ∈ done := heq ▸ haf e he hb
                rw [hA.wrote k t x hkd hkx hts, hAi.wrote k t x hlt hDu hts]
              · obtain ⟨e, he, hb, heq⟩ := waits_spec hwt
                have hkd : k ∉ done := fun hkd => hpd (heq ▸ hcl k hkd ok hok' e he hb)
                rw [hA.kept t fun k' u' hk' hD' => ?_, hAi.kept t fun k' u' hk' hD' => ?_]
                · by_cases hkk : k' = k
                  · subst hkk; omega
                  · exact huniq k k' t u' x hkk hD' hDu
                · by_cases hkk : k' = k
                  · subst hkk; exact hkd hk'
                  · exact hFu Sig.no k k' t u' x hkk hD' hkx
            · rw [hA.kept t fun k v _ hkv => hw ⟨k, v, hkv⟩, hAi.kept t fun k v _ hkv => ?_]
              obtain ⟨_, hnk, _⟩ := hDd k t v hkv
              exact hw ⟨k, v, by rw [hF, if_neg hnk]; exact hkv⟩
          · rw [Array.getElem?_eq_none (show (frames (D.take p) a).tmps.size ≤ t from by rw [hAi.size]; exact Nat.le_of_not_lt hts), Array.getElem?_eq_none (show a1.tmps.size ≤ t from by rw [hA.size]; exact Nat.le_of_not_lt hts)])
        have hput : a1.put o'.dst v = a1.put o'.dst u := by
          rcases hcase with ⟨hni, _⟩ | ⟨_, _, hc1⟩ | ⟨_, hw1, _⟩
          · exact absurd hni hpw
          · have h1 := hc1.at (a' := a1) hsame.1.symm (by rw [hAi.size, hA.size]) hS (fun _ => rfl) (fun a2 _ => a2 = a1.put o'.dst u) (fun _ _ _ => False) (fun _ _ => rfl)
            unfold Oper.wp at h1
            rw [hrun w] at h1
            simpa only [Oper.upon] using h1
          · exfalso
            simp [Region.wanted, hgd] at hw1
        rw [hput] at hr'
        have hFp : F Sig.no p = some (o'.dst, u) := by rw [hF, if_neg hpw]; exact hDk p o' u hpn hpw hop hu
        have hA' := hA.put (j := p) hFp (fun k t u' hki hD' e => hFu Sig.no p k t u' u hki hD' (by rw [hFp, e]))
        have hA2 : Agree (F Sig.no) (fun k => k ∈ p :: done) a (a1.put o'.dst u) :=
          ⟨hA'.defers, hA'.size, fun k t x hk => hA'.wrote k t x (by
            rcases List.mem_cons.1 hk with h | h
            · exact .inr h
            · exact .inl h), fun t ht => hA'.kept t fun k x hk => ht k x (by
            rcases hk with h | h
            · exact List.mem_cons_of_mem _ h
            · exact h ▸ List.mem_cons_self ..)⟩
        have := ih (p :: done) _ hpo' hr' hA2 (fun k hk o ho e he hb => by
          rcases List.mem_cons.1 hk with rfl | hk
          · rw [hop] at ho
            cases ho
            exact List.mem_cons_of_mem _ (haf e he hb)
          · exact List.mem_cons_of_mem _ (hcl k hk o ho e he hb))
        refine ⟨this.defers, this.size, fun k t x hk => this.wrote k t x ?_, fun t ht => this.kept t fun k x hk => ht k x ?_⟩
        · rcases hk with hk | hk
          · rcases List.mem_cons.1 hk with rfl | hk
            · exact .inr (List.mem_cons_self ..)
            · exact .inl hk
          · exact .inr (List.mem_cons_of_mem _ hk)
        · rcases hk with hk | hk
          · exact .inl (List.mem_cons_of_mem _ hk)
          · rcases List.mem_cons.1 hk with rfl | hk
            · exact .inl (List.mem_cons_self ..)
            · exact .inr hk
    have h0 : Agree (F Sig.no) (fun k => k ∈ ([] : List Nat)) a a := ⟨rfl, rfl, fun k t v hk _ _ => (by cases hk), fun t _ => rfl⟩
    have := step pre [] a g.preOrd ha0 h0 (fun k hk => by cases hk)
    refine ⟨this.defers, this.size, fun k t x hk => this.wrote k t x (.inl (hl0 k (by omega) hk.2)), fun t ht => this.kept t fun k x hk => ht k x ?_⟩
    rcases hk with hk | hk
    · exact ⟨(g.preAny k hk).1, hp0 k hk⟩
    · cases hk

theorem wp_region_new {id : Nat} {Q : Exit → Act → World → Prop} {a : Act} {w : World} {l : List Oper} (S : Sig → World → Prop) (n : Nat) (nw tw : List Nat) (htw : ∀ k ∈ tw, k < n ∧ k ∉ nw ∧ ∀ o, l[k]? = some o → o.guard = none) (hm : P.follows .mixedOrders = true) (hok : calmOk l.toArray n nw = true) (hS : S Sig.no w.drew)
    (h : calm P l.toArray S nw tw (fun a' => ∀ σ w', (∀ k ∈ nw, (σ k).isSome = true) → (∀ k ∈ tw, (σ k).isSome = true) → S σ w' → wpList P l.toArray Q (l.drop n) (putNew l nw σ a') w') 0 (l.take n) a) : (Code.region id l.toArray true).wp P Q a w := by
  refine wp_region_any hm ?_
  have hl := left_none l.toArray.size
  have := wpAny_new (a0 := a) S n nw tw [] (fun k hk => ⟨(htw k hk).1, (htw k hk).2.1, by simp, (htw k hk).2.2⟩) hok hS h (Array.replicate l.toArray.size false) (by simp) (fun k hk hkt => by simp [hk] at hkt) (fun p hp => by cases hp) rfl
  rw [hl] at this
  exact this


theorem calm_value {R : Act → Prop} {a : Act} {o : Oper} {rest : List Oper} {i : Nat} {v : Value} (hi : i ∉ nw) (ht : i ∉ tw) (hw : Region.wanted o (yielded ops a.tmps) = true) (h1 : ∀ σ w, S σ w → (execOp a.eval o).run P w = .ok (.value v) w) (h : calm P ops S nw tw R (i + 1) rest (a.put o.dst v)) : calm P ops S nw tw R i (o :: rest) a :=
  calm_step v hi hw (fun σ w hS _ K Q hK => by unfold Oper.wp; rw [h1 σ w hS]; exact hK w (by rw [trk, if_neg ht]; exact hS)) h
end
end Go.Proofs.Ytljejkdkjnbmhaa.Trk
/- A call that changes what there is, in a region that draws its order. -/
namespace Go.Proofs.Ytljejkdkjnbmhaa

section
variable {P : Program} {ops : Array Oper} {S : Sig → World → Prop} {nw tw : List Nat} {R : Act → Prop} {a : Act} {o : Oper} {rest : List Oper} {i : Nat}
/-- A call whose value is known, of which S is told. -/
theorem kcalm_call {v : Value} {f : FuncId} {args : Array Value} (hi : i ∉ nw) (hit : i ∈ tw) (hw : Region.wanted o (yielded ops a.tmps) = true) (hr : ∀ w, (execOp a.eval o).run P w = .ok (.enter f args) w)
    (hc : ∀ σ w, S σ w → σ i = none → Calls P f args w fun e w' => e = .returned v ∧ S (σ.upd i v) w') (h : Trk.calm P ops S nw tw R (i + 1) rest (a.put o.dst v)) : Trk.calm P ops S nw tw R i (o :: rest) a :=
  Trk.calm_step v hi hw (fun σ w hS hf K Q hK => by
    unfold Oper.wp
    rw [hr w]
    refine (hc σ w hS (hf hit)).mono ?_
    rintro e w' ⟨rfl, hS'⟩
    exact hK w' (by rw [Trk.trk, if_pos hit]; exact hS')) h
end
section
variable {P : Program} {ops : Array Oper} {S : Sig → World → Prop} {nw : List Nat} {R : Act → Prop} {a : Act} {o : Oper} {rest : List Oper} {i : Nat}
theorem ncalm_call {f : FuncId} {args : Array Value} (hi : i ∈ nw) (hr : ∀ w, (execOp a.eval o).run P w = .ok (.enter f args) w)
    (hc : ∀ σ w, S σ w → Calls P f args w fun e w' => ∃ v, e = .returned v ∧ S (σ.upd i v) w') (h : calm P ops S nw R (i + 1) rest a) : calm P ops S nw R i (o :: rest) a :=
  calm_new hi (fun σ w hS K Q hK => by
    unfold Oper.wp
    rw [hr w]
    refine (hc σ w hS).mono ?_
    rintro e w' ⟨v, rfl, hS'⟩
    exact hK v w' hS') h
end
end Go.Proofs.Ytljejkdkjnbmhaa
/- slices.Repeat: the walks of the product of two words, the first 1. -/
namespace Go.Proofs.Ytljejkdkjnbmhaa
open Go.RowKit

theorem u64_mask (k : Nat) (h : k ≤ 1000000) : bits .and .u64 (k : Int) 4294967295 = (k : Int) := by
  have key : IntKind.u64.wrap ((BitVec.ofInt 64 (k : Int) &&& BitVec.ofInt 64 ((4294967295 : Nat) : Int)).toNat : Int) = (k : Int) := by
    rw [BitVec.ofInt_natCast, BitVec.ofInt_natCast, BitVec.toNat_and, BitVec.toNat_ofNat, BitVec.toNat_ofNat, Nat.mod_eq_of_lt (by omega), Nat.mod_eq_of_lt (by omega)]
    have := Nat.and_two_pow_sub_one_eq_mod k 32
    rw [show 2 ^ 32 - 1 = 4294967295 by decide] at this
    rw [this, Nat.mod_eq_of_lt (by omega)]
    exact IntWalk.u64_in _ ⟨by omega, by omega⟩
  exact key
set_option maxRecDepth 100000 in
theorem mul64_any (k : Nat) (h : k ≤ 1000000) (w : World) :
    Calls Try.prog 78 #[.int .u64 1, .int .u64 k] w (Ret fun r w' => r = .tuple #[.int .u64 0, .int .u64 k] ∧ Own w w' []) := by
  have H := Own.start w
  have h1 := u64_mask k h
  have h2 : bits .and .u64 1 4294967295 = 1 := by decide
  have h3 : (k : Int) / 4294967296 = 0 := by omega
  go_enter Try.func78, Try.ntmps78
  go_wp2_with fail
  go_ret2
  exact ⟨_, rfl, rfl, H⟩
theorem mul_any (k : Nat) (h : k ≤ 1000000) (w : World) :
    Calls Try.prog 64 #[.int .u64 1, .int .u64 k] w (Ret fun r w' => r = .tuple #[.int .u64 0, .int .u64 k] ∧ Own w w' []) := by
  have H := Own.start w
  have h2 := mul64_any k h
  go_enter Try.func64, Try.ntmps64
  go_wp2_with fail
  refine (h2 _).mono ?_
  rintro e w2 ⟨_, rfl, rfl, H2⟩
  have H := H.join H2
  go_wp2_with fail
  go_ret2
  exact ⟨_, rfl, rfl, H⟩
end Go.Proofs.Ytljejkdkjnbmhaa
/- copy into a row of the call's own; slices.Repeat of one int. -/
namespace Go.Proofs.Ytljejkdkjnbmhaa
open Go.RowKit

section
variable {w0 w w' : World} {ps : List Piece} {e : TypeId} {n : Nat} {xs : List Value}
variable {P : Program} {ops : Array Oper} {rest : List Oper} {o : Oper} {a : Act} {Q : Exit → Act → World → Prop}
theorem wpList_copy_slc (hgd : o.guard = none) (d s : Operand) (dT sT : TypeId) (ho : o.op = .call { callee := .builtin .copy, args := #[d, s], argTypes := #[dT, sT] })
    (hu : P.underlying dT = some (.slice e)) (hsz : (P.info? e).map (·.size) = some 1) {g c : Nat} (H : Own w0 w (slc e 1 (.slice (some ⟨g, 0, none⟩) n c) n xs :: ps))
    (dp sp : Option Addr) (dLen dCap sLen sCap : Nat) (hd : a.eval d = .slice dp dLen dCap) (hs : a.eval s = .slice sp sLen sCap)
    (off m : Nat) (cs : List Value) (hm : cs.length = m) (hn : m = Nat.min sLen dLen) (hpos : 0 < m → dp = some ⟨g, off, none⟩ ∧ ∃ ad, sp = some ad ∧ ∀ j v, cs[j]? = some v → w.cell? (ad.add j) = some v)
    (hfit : off + m ≤ n) (h1 : ∀ v ∈ cs, v.oneCell' = true)
    (h : ∀ w', Own w0 w' (slc e 1 (.slice (some ⟨g, 0, none⟩) n c) n (splice xs off cs) :: ps) → wpList P ops Q rest (a.put o.dst (.int .i64 m)) w') : wpList P ops Q (o :: rest) a w := by
  subst hm
  by_cases h0 : cs.length = 0
  · obtain rfl : cs = [] := List.eq_nil_of_length_eq_zero h0
    refine wpList_copy_nothing hgd d s dT sT ho e hu hsz dp sp dLen dCap sLen sCap hd hs (by simpa using hn.symm) ?_
    exact h w (by simpa [splice] using H)
  · obtain ⟨rfl, ad, rfl, hsrc⟩ := hpos (by omega)
    rcases H.slc_cases with ⟨hv, _⟩ | ⟨g', cap, cur, he, hl, c1, c2, c3, c4, h5⟩
    · cases hv
    · cases he
      refine wpList_copy_own hgd d s dT sT ho e hu hsz g off dLen dCap ad sLen sCap hd hs cur e h5.block.1 cs hn hsrc (by omega) h1 ?_
      refine h _ ((h5.setRow (cur' := (cur.toList.take off ++ (cs ++ cur.toList.drop (off + cs.length))).toArray)).slc_mk ?_ c1 c2 ?_ ?_)
      · rw [length_splice _ _ _ (by omega)]; exact hl
      · simp only [List.size_toArray, List.length_append, List.length_take, List.length_drop, Array.length_toList]; omega
      · have hcl : cur.toList.length = cur.size := by simp
        unfold splice
        rw [← c4, List.toList_toArray, Nat.mul_one, List.take_append, List.take_append, List.take_take, List.drop_take, List.length_take, Nat.min_eq_left (show off ≤ cur.toList.length by omega), List.take_take,
          Nat.min_eq_right (show off ≤ n by omega), List.take_of_length_le (l := cs) (by omega), Nat.min_eq_left (show off ≤ n by omega), show n - off - cs.length = n - (off + cs.length) by omega]
end

theorem rep_splice (a : Int) {k n m : Nat} (h : n + m ≤ k) : splice (nums (List.replicate n a ++ List.replicate (k - n) 0)) n (nums (List.replicate m a)) = nums (List.replicate (n + m) a ++ List.replicate (k - (n + m)) 0) := by
  unfold splice nums
  rw [List.map_append, List.map_append, List.take_left' (by simp), List.drop_append, List.drop_eq_nil_of_le (by simp), List.nil_append]
  simp only [List.map_replicate, List.length_replicate, List.drop_replicate]
  rw [← List.append_assoc, List.replicate_append_replicate, show k - n - (n + m - n) = k - (n + m) by omega]

set_option maxRecDepth 100000 in
set_option maxHeartbeats 1600000 in
theorem repeat_any {w : World} {v : Value} {a : Int} (k : Nat) (hr : Rd w 1 v 1 (nums [a])) (hk : k ≤ 1000000) :
    Calls Try.prog 47 #[v, .int .i64 k] w (Ret fun r w' => Own w w' [slc 3 1 r k (nums (List.replicate k a))]) := by
  have H := Own.start w
  obtain ⟨b, o, c, rfl, hc1, hc2⟩ := hr.some (by simp [nums])
  have c0 := hr.cell (u := .int .i64 a) (j := 0) rfl
  have HC0 := Lib.hid c0
  clear hr c0
  have hmul := mul_any k hk
  have HM := Lib.hid hmul
  clear hmul
  have hkI : (k : Int) ≤ 9223372036854775807 := by omega
  have hkw : IntKind.u64.wrap (k : Int) = (k : Int) := IntWalk.u64_in _ ⟨by omega, by omega⟩
  have hkw2 : IntKind.i64.wrap (k : Int) = (k : Int) := IntWalk.i64_in _ ⟨by omega, by omega⟩
  have hmk : ∀ w : World, (Instr.makeSlice 30 (.int .i64 k) (.int .i64 k)).run Try.prog w = .ok (.slice (some ⟨w.heap.size, 0, none⟩) k k) (w.alloc (.cells (madeCells #[.int .i64 0] k) 3)) := run_make_row' _ _ _ 8 Try.underlying30 intInfo rfl .i64 .i64 k (by omega) (by omega)
  go_enter Try.func47, Try.ntmps47
  go_wp2_with fail
  refine (HM.out _).mono ?_
  rintro e w2 ⟨_, rfl, rfl, H2⟩
  have H := H.join H2
  clear H2
  go_upto_region 7 with (fail)
  have h1 := H.alloc (.cells (madeCells #[.int .i64 0] k) 3)
  have H : Own w (w2.alloc (.cells (madeCells #[.int .i64 0] k) 3)) [slc 3 1 (.slice (some ⟨w2.heap.size, 0, none⟩) k k) k (nums (List.replicate 0 a ++ List.replicate (k - 0) 0))] :=
    h1.slc_mk (by simp [nums]) (Nat.le_refl _) (by simp [maxLen]; omega) (by simp [size_madeCells]) (by rw [toList_madeCells_one]; simp [nums])
  have c0 := (show (w2.alloc (.cells (madeCells #[.int .i64 0] k) 3)).cell? ⟨b, o + 0, none⟩ = some (.int .i64 a) by rw [H.oldCell (World.block_lt_of_cell? _ _ HC0.out)]; exact HC0.out)
  clear h1
  generalize w2.alloc (.cells (madeCells #[.int .i64 0] k) 3) = w3 at *
  obtain ⟨g, hg⟩ : ∃ g, w2.heap.size = g := ⟨_, rfl⟩
  rw [hg] at H ⊢
  clear hg hmk HM
  have hsrc : ∀ j v, (nums (List.replicate (min k 1) a))[j]? = some v → w3.cell? ((⟨b, o, none⟩ : Addr).add j) = some v := fun j v hj => by
    have hlt := (List.getElem?_eq_some_iff.1 hj).1
    rw [nums_length, List.length_replicate] at hlt
    have : j = 0 := by omega
    subst this
    rw [Addr.add_lit, c0]
    have hk1 : min k 1 = 1 := by omega
    rw [hk1] at hj
    exact hj
  obtain ⟨m1, hm1⟩ : ∃ m1, Hid (min k 1 = m1) := ⟨_, rfl⟩
  have hmin : m1 = Nat.min 1 k := by rw [← hm1.out]; show min k 1 = min 1 k; omega
  rw [hm1.out] at hsrc
  have HS := Lib.hid hsrc
  have HMIN := Lib.hid hmin
  have hm1k : m1 ≤ k := by rw [← hm1.out]; omega
  have hm10 : 1 ≤ k → 1 ≤ m1 := fun h => by rw [← hm1.out]; omega
  have HP := Lib.hid hm10
  have HONE : Hid (∀ m : Nat, ∀ v ∈ nums (List.replicate m a), v.oneCell' = true) := Lib.hid (fun m v hv => by
    unfold nums at hv; obtain ⟨x, _, rfl⟩ := List.mem_map.1 hv; rfl)
  clear c0 hsrc hmin hm10
  go_wp2_with (refine wpList_copy_slc rfl _ _ _ _ rfl Try.underlying30 (by kernel_rfl) H _ _ _ _ _ _ rfl rfl 0 m1 (nums (List.replicate m1 a)) (by simp [nums]) HMIN.out (fun h => ⟨rfl, _, rfl, HS.out⟩) (by omega) (HONE.out m1) ?_; clear H; intro w4 H; rw [rep_splice a (by omega), Nat.zero_add] at H)
  go_loopw [8] (fun s8 wx => ∃ n : Nat, s8 = .int .i64 n ∧ n ≤ k ∧ (1 ≤ k → 1 ≤ n) ∧ Own w wx [slc 3 1 (.slice (some ⟨g, 0, none⟩) k k) k (nums (List.replicate n a ++ List.replicate (k - n) 0))]) (fun s8 _ => k - (intOf s8).toNat)
  case atStart => exact ⟨m1, by go_num, hm1k, HP.out, H⟩
  case round =>
    clear H
    obtain ⟨n, rfl, hn, hn1, H⟩ := hrel
    by_cases hlt : n < k
    · have hI : (n : Int) < (k : Int) := by omega
      have hn1 := hn1 (by omega)
      obtain ⟨m, hm⟩ : ∃ m, Hid (min n (k - n) = m) := ⟨_, rfl⟩
      have hm1 : 1 ≤ m := by rw [← hm.out]; omega
      have hmk : n + m ≤ k := by rw [← hm.out]; omega
      have hmn : m ≤ n := by rw [← hm.out]; omega
      have hmin : m = Nat.min n (k - n) := hm.out.symm
      have HMIN2 := Lib.hid hmin
      have hsub : ((k : Int) - (n : Int)) = ((k - n : Nat) : Int) := by omega
      clear hmin
      have hcut : (n : Int) ≤ (k : Int) := by omega
      have hn0 : n ≠ 0 := by omega
      have hkn : k ≠ n := by omega
      go_upto_region 9 with (fail)
      refine wp_region_pres (fun σ w1 => Own w w1 [slc 3 1 (.slice (some ⟨g, 0, none⟩) k k) k (nums (List.replicate n a ++ List.replicate (k - n) 0))]) 7 [] [0] (by kernel_rfl) (by kernel_rfl) (by kernel_rfl) (by kernel_rfl) (fun _ _ d _ _ h => by cases d <;> exact h) ⟨_, _, rfl, fun w => (by first | rfl | (go_simp; rfl)), rfl⟩ H.drew ?_
      simp only [List.take_succ_cons, List.take_zero, List.drop_succ_cons, List.drop_zero]
      repeat
        first
        | (refine calm_value (v := ?_) (by decide) rfl (fun σ w1 hS => ?_) ?_
           rotate_left
           · skip
             first | (go_simp; rfl) | rfl
           simp only [Act.put, List.setIfInBounds_toArray, List.set_cons_zero, List.set_cons_succ])
        | (refine calm_skip (by decide) rfl ?_
           simp only [Act.put, List.setIfInBounds_toArray, List.set_cons_zero, List.set_cons_succ])
      refine calm_nil ?_
      intro σ wd hσ HD
      clear H
      simp only [putNew, List.foldl_nil]
      have hsrc : ∀ j v, (nums (List.replicate m a))[j]? = some v → wd.cell? ((⟨g, 0, none⟩ : Addr).add j) = some v := fun j v hj => by
        have hlt := (List.getElem?_eq_some_iff.1 hj).1
        rw [nums_length, List.length_replicate] at hlt
        rw [Addr.add_lit]
        refine HD.rd.cell ?_
        unfold nums at hj ⊢
        rw [List.map_append, List.getElem?_append_left (by simp; omega), ← hj]
        simp only [List.map_replicate, List.getElem?_replicate]
        rw [if_pos (by omega), if_pos hlt]
      have HS2 := Lib.hid hsrc
      have hnm : IntKind.i64.wrap ((n : Int) + (m : Int)) = ((n + m : Nat) : Int) := by rw [Int.natCast_add]; exact IntWalk.i64_in _ ⟨by omega, by omega⟩
      clear hsrc
      go_wp2_with (refine wpList_copy_slc rfl _ _ _ _ rfl Try.underlying30 (by kernel_rfl) HD _ _ _ _ _ _ rfl rfl n m (nums (List.replicate m a)) (by simp [nums]) HMIN2.out (fun h => ⟨rfl, _, rfl, HS2.out⟩) (by omega) (HONE.out m) ?_; clear HD; intro w6 H; rw [rep_splice a (by omega)] at H)
      go_roundw
      case rel => exact ⟨n + m, by go_num, by omega, fun _ => by omega, H⟩
      case measure => simp [intOf]; omega
    · have hI : ¬ (n : Int) < (k : Int) := by omega
      obtain rfl : n = k := by omega
      rw [Nat.sub_self, List.replicate_zero, List.append_nil] at H
      go_wp2_with fail
      go_ret
      exact ⟨_, rfl, H⟩
end Go.Proofs.Ytljejkdkjnbmhaa
/- slices.Grow of nil, slices.Concat: the walks. -/
namespace Go.Proofs.Ytljejkdkjnbmhaa
open Go.RowKit

set_option maxRecDepth 100000 in
theorem grow_any (n : Nat) (hn : n ≤ 1000000) (w : World) :
    Calls Try.prog 63 #[.slice none 0 0, .int .i64 n] w (Ret fun r w' => Own w w' [slc 3 1 r 0 []]) := by
  have H := Own.start w
  by_cases h0 : n = 0
  · subst h0
    have H := H.nil 3 1
    go_enter Try.func63, Try.ntmps63
    go_wp2_with fail
    go_ret
    exact ⟨_, rfl, H⟩
  · have hI : (n : Int) > 0 := by omega
    obtain ⟨i, hi, hz, hsize, hby⟩ := info_parts intInfo
    have hap : ∀ (w : World) (ty : TypeId) (t2 : TypeId), Try.prog.underlying t2 = some (.int .i64) → (Builtin.append_ #[30, t2] ty #[.slice none 0 0, .int .i64 n]).run Try.prog w = .ok (.slice (some ⟨w.heap.size, 0, none⟩) n (grownCap w n 0 3)) (w.drew.alloc (.cells (Builtin.zeroCells (Value.int .i64 0).cells n ++ Builtin.zeroCells (Value.int .i64 0).cells (grownCap w n 0 3 - n)) 3)) := fun w ty t2 ht2 =>
      Lib.run_append_nil_zeros w 30 t2 ty 3 i (.int .i64 0) .i64 .i64 Try.underlying30 ht2 hi hz n (by omega) (by omega) (by omega) (by rw [hby]; omega)
    have HA := Lib.hid hap
    have hge := grownCap_ge w n 0 3
    have hle := grownCap_le_maxLen w n 0 3 (by simp [maxLen]; omega)
    have H2 : Own w (w.drew.alloc (.cells (Builtin.zeroCells (Value.int .i64 0).cells n ++ Builtin.zeroCells (Value.int .i64 0).cells (grownCap w n 0 3 - n)) 3)) [slc 3 1 (.slice (some ⟨w.heap.size, 0, none⟩) 0 (grownCap w n 0 3)) 0 []] := by
      have h1 := H.drew.alloc (.cells (Builtin.zeroCells (Value.int .i64 0).cells n ++ Builtin.zeroCells (Value.int .i64 0).cells (grownCap w n 0 3 - n)) 3)
      exact h1.slc_mk (by simp) (Nat.zero_le _) hle (by simp [size_zeroCells, Value.cells]; omega) (by simp)
    clear hap
    go_enter Try.func63, Try.ntmps63
    go_wp2_with (at_builtin; refine Lib.wpList_append_run _ rfl _ _ _ _ rfl _ _ rfl rfl _ _ (HA.out _ _ _ (by kernel_rfl)) ?_; clear H; generalize w.drew.alloc _ = w2 at *; generalize grownCap w n 0 3 = gc at *)
    go_ret
    exact ⟨_, rfl, H2⟩

/-- How many ints the first k lists have. -/
def flatN (Ls : List (List Int)) (k : Nat) : List Int := (Ls.take k).flatten
theorem flatN_succ {Ls : List (List Int)} {k : Nat} {L : List Int} (h : Ls[k]? = some L) : flatN Ls (k + 1) = flatN Ls k ++ L := by
  unfold flatN
  rw [List.take_add_one, h, List.flatten_append]
  simp
theorem flatN_le (Ls : List (List Int)) (k : Nat) : (flatN Ls k).length ≤ Ls.flatten.length := by
  unfold flatN
  conv => rhs; rw [← List.take_append_drop k Ls, List.flatten_append, List.length_append]
  omega
set_option maxRecDepth 100000 in
set_option maxHeartbeats 1600000 in
theorem concat_any {w : World} {v : Value} {m : Nat} (Ls : List (List Int)) (vs : List Value) (hr : Rd w 1 v m vs) (hl : vs.length = m) (hLl : Ls.length = m) (hm : m ≤ 1000)
    (hall : ∀ (k : Nat) (u : Value) (L : List Int), vs[k]? = some u → Ls[k]? = some L → Rd w 1 u L.length (nums L)) (hN : Ls.flatten.length ≤ 100000) :
    Calls Try.prog 46 #[v] w (Ret fun r w' => Own w w' [slc 3 1 r Ls.flatten.length (nums Ls.flatten)]) := by
  have H := Own.start w
  obtain ⟨a, c, rfl, hc1, hc2⟩ := hr.shape
  have HR := Lib.hid hr
  have HALL := Lib.hid hall
  have HL := Lib.hid hl
  have HLL := Lib.hid hLl
  clear hr hall hl hLl
  have hg : ∀ (n : Nat), n ≤ 1000000 → ∀ w, Calls Try.prog 63 #[.slice none 0 0, .int .i64 n] w (Ret fun r w' => Own w w' [slc 3 1 r 0 []]) := fun n hn w => grow_any n hn w
  have HG := Lib.hid hg
  clear hg
  obtain ⟨N, hNN⟩ : ∃ N, Hid (Ls.flatten.length = N) := ⟨_, rfl⟩
  rw [hNN.out] at hN ⊢
  obtain ⟨FL, hFL⟩ : ∃ FL, Hid (Ls.flatten = FL) := ⟨_, rfl⟩
  rw [hFL.out]
  go_enter Try.func46, Try.ntmps46
  go_wp2_with fail
  go_loopw [3, 11] (fun s3 s11 wx => ∃ k q : Nat, s11 = .int .i64 k ∧ k ≤ m ∧ s3 = .int .i64 q ∧ Hid ((flatN Ls k).length = q) ∧ q ≤ 100000 ∧ Own w wx []) (fun _ s11 _ => m - (intOf s11).toNat)
  case atStart => exact ⟨0, 0, by go_num, by omega, by go_num, Lib.hid (by simp [flatN]), by omega, H⟩
  case round =>
    clear H
    obtain ⟨k, q, rfl, hk, rfl, hq, hqN, H⟩ := hrel
    by_cases hlt : k < m
    · have hI : (k : Int) < (m : Int) := by omega
      obtain ⟨u, hu⟩ := get_of_lt (l := vs) (k := k) (by have := HL.out; omega)
      obtain ⟨L, hL⟩ := get_of_lt (l := Ls) (k := k) (by have := HLL.out; omega)
      obtain ⟨b, o, _, he, -⟩ := HR.out.some (by have := HL.out; omega)
      cases he
      have c0 := (HR.out.old H).cell hu
      have hu2 := HALL.out k u L hu hL
      obtain ⟨ua, uc, rfl, huc1, huc2⟩ := hu2.shape
      have hs := flatN_succ hL
      have hle := flatN_le Ls (k + 1)
      rw [hNN.out] at hle
      have hq2 : Hid ((flatN Ls (k + 1)).length = q + L.length) := Lib.hid (by rw [hs, List.length_append, hq.out])
      have hb : q + L.length ≤ 100000 := by have := hq2.out; omega
      obtain ⟨x, hx⟩ : ∃ x, Hid (L.length = x) := ⟨_, rfl⟩
      rw [hx.out] at hb hq2 huc1 c0
      have hw : IntKind.i64.wrap ((q : Int) + (x : Int)) = (q : Int) + (x : Int) := IntWalk.i64_in _ ⟨by omega, by omega⟩
      have hnn : ¬ ((q : Int) + (x : Int) < 0) := by omega
      clear hu hL hu2 hs hle
      go_wp2_with fail
      go_roundw
      case rel => exact ⟨k + 1, q + x, by go_num, by omega, by go_num, hq2, hb, H⟩
      case measure => simp [intOf]; omega
    · have hI : ¬ (k : Int) < (m : Int) := by omega
      go_wp2_with fail
      refine (HG.out q (by omega) _).mono ?_
      rintro e w2 ⟨v6, rfl, H2⟩
      have H := H.join H2
      clear H2
      obtain ⟨a6, c6, rfl, -⟩ := H.rd.shape
      go_wp2_with fail
      go_loopw [6, 27] (fun s6 s27 wx => ∃ k q : Nat, s27 = .int .i64 k ∧ k ≤ m ∧ Hid ((flatN Ls k).length = q) ∧ q ≤ 100000 ∧ Own w wx [slc 3 1 s6 q (nums (flatN Ls k))]) (fun _ s27 _ => m - (intOf s27).toNat)
      case atStart => exact ⟨0, 0, by go_num, by omega, Lib.hid (by simp [flatN]), by omega, H⟩
      case round =>
        clear H hq hqN
        obtain ⟨k, q, rfl, hk, hq, hqN, H⟩ := hrel
        rename_i v6 _
        obtain ⟨a6, c6, rfl, -⟩ := H.rd.shape
        by_cases hlt : k < m
        · have hI : (k : Int) < (m : Int) := by omega
          obtain ⟨u, hu⟩ := get_of_lt (l := vs) (k := k) (by have := HL.out; omega)
          obtain ⟨L, hL⟩ := get_of_lt (l := Ls) (k := k) (by have := HLL.out; omega)
          obtain ⟨b, o, _, he, -⟩ := HR.out.some (by have := HL.out; omega)
          cases he
          have c0 := (HR.out.old H).cell hu
          have hu2 := HALL.out k u L hu hL
          obtain ⟨ua, uc, rfl, huc1, huc2⟩ := hu2.shape
          have hs := flatN_succ hL
          have hle := flatN_le Ls (k + 1)
          rw [hNN.out] at hle
          obtain ⟨x, hx⟩ : ∃ x, Hid (L.length = x) := ⟨_, rfl⟩
          have hq2 : Hid ((flatN Ls (k + 1)).length = q + x) := Lib.hid (by rw [hs, List.length_append, hq.out, hx.out])
          have hb : q + x ≤ 100000 := by have := hq2.out; omega
          have hold := hu2.old H
          rw [hx.out] at huc1 c0 hold
          have HS := Lib.hid (show nums (flatN Ls k) ++ nums L = nums (flatN Ls (k + 1)) by rw [hs]; simp [nums])
          have HO := Lib.hid hold
          have H1 : Hid (∀ v ∈ nums L, v.oneCell' = true) := Lib.hid (fun v hv => by unfold nums at hv; obtain ⟨x, _, rfl⟩ := List.mem_map.1 hv; rfl)
          clear hu hL hu2 hs hle hold
          go_wp2_with (at_builtin; refine wpList_append_sep rfl _ _ rfl Try.underlying30 intInfo rfl (by decide) rfl H HO.out H1.out (by omega) (by omega) ?_; clear H c0; intro v' w' H; rw [HS.out] at H; obtain ⟨a8, c8, rfl, -⟩ := H.rd.shape)
          go_roundw
          case rel => exact ⟨k + 1, q + x, by go_num, by omega, hq2, hb, H⟩
          case measure => simp [intOf]; omega
        · have hI : ¬ (k : Int) < (m : Int) := by omega
          have hfl : flatN Ls k = Ls.flatten := by unfold flatN; rw [List.take_of_length_le (by have := HLL.out; omega)]
          have hqq : q = N := by rw [← hq.out, hfl, hNN.out]
          subst hqq
          rw [hfl, hFL.out] at H
          clear hfl hq
          go_wp2_with fail
          go_ret
          exact ⟨_, rfl, H⟩
end Go.Proofs.Ytljejkdkjnbmhaa
/- As XTrk: of each operation it is told that the tracked ones it waits for were done. No program in sight. (Written by tools/trd.py.) -/
namespace Go.Proofs.Ytljejkdkjnbmhaa.Trd
open Go.RowKit

def trk (tw : List Nat) (i : Nat) (v : Value) (σ : Sig) : Sig := if i ∈ tw then σ.upd i v else σ
def Deps (o : Oper) (k : Nat) : Prop := ∃ e ∈ o.after, Region.binds .any e = true ∧ e.on = k
/-- In every world that meets S the operation yields v, and S holds behind it. -/
def Calm1 (P : Program) (S : Sig → World → Prop) (tw : List Nat) (i : Nat) (o : Oper) (a : Act) (v : Value) : Prop :=
  ∀ σ w, S σ w → (i ∈ tw → σ i = none) → (∀ k ∈ tw, Deps o k → (σ k).isSome = true) → ∀ (K : Act → World → Prop) (Q : Exit → Act → World → Prop), (∀ w', S (trk tw i v σ) w' → K (a.put o.dst v) w') → o.wp P a w K Q

def New1 (P : Program) (S : Sig → World → Prop) (tw : List Nat) (i : Nat) (o : Oper) (a : Act) : Prop :=
  ∀ σ w, S σ w → (∀ k ∈ tw, Deps o k → (σ k).isSome = true) → ∀ (K : Act → World → Prop) (Q : Exit → Act → World → Prop), (∀ v w', S (σ.upd i v) w' → K (a.put o.dst v) w') → o.wp P a w K Q

def calm (P : Program) (ops : Array Oper) (S : Sig → World → Prop) (nw tw : List Nat) (R : Act → Prop) : Nat → List Oper → Act → Prop
  | _, [], a => R a
  | i, o :: rest, a => (i ∈ nw ∧ New1 P S tw i o a ∧ calm P ops S nw tw R (i + 1) rest a) ∨
      (i ∉ nw ∧ Region.wanted o (yielded ops a.tmps) = true ∧ ∃ v, Calm1 P S tw i o a v ∧ calm P ops S nw tw R (i + 1) rest (a.put o.dst v)) ∨
      (i ∉ nw ∧ Region.wanted o (yielded ops a.tmps) = false ∧ calm P ops S nw tw R (i + 1) rest (a.put o.dst undef))

section
variable {P : Program} {ops : Array Oper} {S : Sig → World → Prop} {nw tw : List Nat} {R : Act → Prop} {a : Act} {o : Oper} {rest : List Oper} {i : Nat}
theorem calm_nil (h : R a) : calm P ops S nw tw R i [] a := h
theorem calm_step (v : Value) (hi : i ∉ nw) (hw : Region.wanted o (yielded ops a.tmps) = true)
    (h1 : ∀ σ w, S σ w → (i ∈ tw → σ i = none) → (∀ k ∈ tw, Deps o k → (σ k).isSome = true) → ∀ (K : Act → World → Prop) (Q : Exit → Act → World → Prop), (∀ w', S (trk tw i v σ) w' → K (a.put o.dst v) w') → o.wp P a w K Q) (h : calm P ops S nw tw R (i + 1) rest (a.put o.dst v)) : calm P ops S nw tw R i (o :: rest) a := .inr (.inl ⟨hi, hw, v, h1, h⟩)
end

section
variable {P : Program} {ops : Array Oper} {S : Sig → World → Prop} {nw tw : List Nat}
theorem calm_frames {R : Act → Prop} : ∀ (l : List Oper) (i : Nat) (a : Act), calm P ops S nw tw R i l a →
    ∃ vs : List Value, vs.length = l.length ∧ R (frames ((dets nw i l).zip vs) a) ∧
      ∀ k o, l[k]? = some o → ∃ v, vs[k]? = some v ∧
        ((i + k ∈ nw ∧ New1 P S tw (i + k) o (frames (((dets nw i l).zip vs).take k) a)) ∨
         (i + k ∉ nw ∧ Region.wanted o (yielded ops (frames (((dets nw i l).zip vs).take k) a).tmps) = true ∧ Calm1 P S tw (i + k) o (frames (((dets nw i l).zip vs).take k) a) v) ∨
         (i + k ∉ nw ∧ Region.wanted o (yielded ops (frames (((dets nw i l).zip vs).take k) a).tmps) = false ∧ v = undef)) := by
  intro l
  induction l with
  | nil => intro i a h; exact ⟨[], rfl, h, fun k o hk => by simp at hk⟩
  | cons o l ih =>
    intro i a h
    have step : ∀ (v : Value) (a' : Act), a' = a.put (if i ∈ nw then none else o.dst) v → calm P ops S nw tw R (i + 1) l a' →
        ((i ∈ nw ∧ New1 P S tw i o a) ∨ (i ∉ nw ∧ Region.wanted o (yielded ops a.tmps) = true ∧ Calm1 P S tw i o a v) ∨ (i ∉ nw ∧ Region.wanted o (yielded ops a.tmps) = false ∧ v = undef)) → ∃ vs : List Value, vs.length = (o :: l).length ∧ R (frames ((dets nw i (o :: l)).zip vs) a) ∧
      ∀ k o', (o :: l)[k]? = some o' → ∃ v, vs[k]? = some v ∧
        ((i + k ∈ nw ∧ New1 P S tw (i + k) o' (frames (((dets nw i (o :: l)).zip vs).take k) a)) ∨
         (i + k ∉ nw ∧ Region.wanted o' (yielded ops (frames (((dets nw i (o :: l)).zip vs).take k) a).tmps) = true ∧ Calm1 P S tw (i + k) o' (frames (((dets nw i (o :: l)).zip vs).take k) a) v) ∨
         (i + k ∉ nw ∧ Region.wanted o' (yielded ops (frames (((dets nw i (o :: l)).zip vs).take k) a).tmps) = false ∧ v = undef)) := by
      intro v a' ha hc h0
      obtain ⟨vs, hl, hR, hk⟩ := ih _ _ hc
      refine ⟨v :: vs, by simp [hl], by rw [ha] at hR; exact hR, fun k o' hk' => ?_⟩
      cases k with
      | zero => simp at hk'; subst hk'; exact ⟨v, rfl, h0⟩
      | succ k =>
        have := hk k o' (by simpa using hk')
        rw [ha, show i + 1 + k = i + (k + 1) by omega] at this
        exact this
    rcases h with ⟨hi, h1, h2⟩ | ⟨hi, hw, v, h1, h2⟩ | ⟨hi, hw, h2⟩
    · exact step undef a (by rw [if_pos hi]; rfl) h2 (.inl ⟨hi, h1⟩)
    · exact step v _ (by rw [if_neg hi]) h2 (.inr (.inl ⟨hi, hw, h1⟩))
    · exact step undef _ (by rw [if_neg hi]) h2 (.inr (.inr ⟨hi, hw, rfl⟩))

theorem Calm1.at {tw : List Nat} {i : Nat} {o : Oper} {a a' : Act} {v : Value} (h : Calm1 P S tw i o a v) (he : execOp a'.eval o = execOp a.eval o) (hs : a.tmps.size = a'.tmps.size) {σ : Sig} {w : World} (hw : S σ w) (hfr : i ∈ tw → σ i = none) (hdp : ∀ k ∈ tw, Deps o k → (σ k).isSome = true)
    (K : Act → World → Prop) (Q : Exit → Act → World → Prop) (hK : ∀ w', S (trk tw i v σ) w' → K (a'.put o.dst v) w') : o.wp P a' w K Q := by
  have h1 := h σ w hw hfr hdp (fun a1 w1 => a1 = a.put o.dst v ∧ S (trk tw i v σ) w1) (fun _ _ _ => False) (fun w' hw' => ⟨rfl, hw'⟩)
  unfold Oper.wp at *
  rw [he]
  generalize (execOp a.eval o).run P w = r at *
  cases r with
  | ok n w' =>
    cases n <;> simp only [Oper.upon] at h1 ⊢
    case value u => rw [put_eq hs h1.1]; exact hK _ h1.2
    case skip => rw [put_eq hs h1.1]; exact hK _ h1.2
    case defer d =>
      have := congrArg (fun x => x.defers.length) h1.1
      cases hd : o.dst <;> simp [Act.put, hd] at this
    case enter f args =>
      refine Calls.mono h1 fun e w'' he => ?_
      cases e with
      | returned u =>
        show K (a'.put o.dst u) w''
        rw [put_eq hs he.1]; exact hK _ he.2
      | panicked c => exact he.elim
      | outgrown => obtain ⟨_, _, hh⟩ := he; exact hh.elim
    case row row args => exact Rows.mono h1 fun u w'' he => by rw [put_eq hs he.1]; exact hK _ he.2
  | halt x w' => cases x <;> simp only [Oper.upon] at h1 ⊢
theorem New1.at {tw : List Nat} {i : Nat} {o : Oper} {a a' : Act} (h : New1 P S tw i o a) (he : execOp a'.eval o = execOp a.eval o) (hs : a.tmps.size = a'.tmps.size) {σ : Sig} {w : World} (hw : S σ w) (hdp : ∀ k ∈ tw, Deps o k → (σ k).isSome = true)
    (K : Act → World → Prop) (Q : Exit → Act → World → Prop) (hK : ∀ v w', S (σ.upd i v) w' → K (a'.put o.dst v) w') : o.wp P a' w K Q := by
  have h1 := h σ w hw hdp (fun a1 w1 => ∃ v, a1 = a.put o.dst v ∧ S (σ.upd i v) w1) (fun _ _ _ => False) (fun v w' hw' => ⟨v, rfl, hw'⟩)
  unfold Oper.wp at *
  rw [he]
  generalize (execOp a.eval o).run P w = r at *
  cases r with
  | ok n w' =>
    cases n <;> simp only [Oper.upon] at h1 ⊢
    case value u => obtain ⟨v, e1, e2⟩ := h1; rw [put_eq hs e1]; exact hK _ _ e2
    case skip => obtain ⟨v, e1, e2⟩ := h1; rw [put_eq hs e1]; exact hK _ _ e2
    case defer d =>
      obtain ⟨v, e1, e2⟩ := h1
      have := congrArg (fun x => x.defers.length) e1
      cases hd : o.dst <;> simp [Act.put, hd] at this
    case enter f args =>
      refine Calls.mono h1 fun e w'' he => ?_
      cases e with
      | returned u =>
        show K (a'.put o.dst u) w''
        obtain ⟨v, e1, e2⟩ := he
        rw [put_eq hs e1]; exact hK _ _ e2
      | panicked c => exact he.elim
      | outgrown => obtain ⟨_, _, hh⟩ := he; exact hh.elim
    case row row args => exact Rows.mono h1 fun u w'' he => by obtain ⟨v, e1, e2⟩ := he; rw [put_eq hs e1]; exact hK _ _ e2
  | halt x w' => cases x <;> simp only [Oper.upon] at h1 ⊢
theorem wpAny_new {Q : Exit → Act → World → Prop} {a a0 : Act} {w : World} {l : List Oper} (S : Sig → World → Prop) (n : Nat) (nw tw : List Nat) (pre : List Nat) (htw : ∀ k ∈ tw, k < n ∧ k ∉ nw ∧ k ∉ pre ∧ ∀ o, l[k]? = some o → o.guard = none) (hpd0 : ∀ p ∈ pre, ∀ o, l[p]? = some o → ∀ k ∈ tw, ¬ Deps o k) (hok : calmOk l.toArray n nw pre = true) (hS : S Sig.no w)
    (h : calm P l.toArray S nw tw (fun a' => ∀ σ w', (∀ k ∈ nw, (σ k).isSome = true) → (∀ k ∈ tw, (σ k).isSome = true) → S σ w' → wpList P l.toArray Q (l.drop n) (putNew l nw σ a') w') 0 (l.take n) a)
    (listed0 : Array Bool) (hs0 : listed0.size = l.length) (hl0 : ∀ k, k < l.length → listed0.getD k true = true → k ∈ pre) (hp0 : ∀ p ∈ pre, listed0.getD p true = true)
    (ha0 : PreRun P l pre a a0) :
    wpAny P .any l.toArray Q (left listed0) listed0 a0 w := by
  have g := good_of hok
  have hnl : n ≤ l.length := by simpa using g.le
  obtain ⟨vs, hvl, hR, hk⟩ := calm_frames _ _ _ h
  have hvn : vs.length = n := by simp [hvl, hnl]
  obtain ⟨D, hD⟩ : ∃ D, (dets nw 0 (l.take n)).zip vs = D := ⟨_, rfl⟩
  rw [hD] at hR hk
  simp only [Nat.zero_add] at hk
  have hDl : D.length = n := by rw [← hD]; simp [dets_length, hvn, hnl]
  have hget : ∀ k, k < n → (dets nw 0 (l.take n))[k]? = (l[k]?).map fun o => if k ∈ nw then none else o.dst := by
    intro k hk
    rw [dets_get]
    simp [hk]
  -- the k-th of D
  have hDk : ∀ (k : Nat) (o : Oper) (v : Value), k < n → k ∉ nw → l[k]? = some o → vs[k]? = some v → D[k]? = some (o.dst, v) := by
    intro k o v hkn hnk ho hv
    rw [← hD, List.getElem?_zip_eq_some]
    refine ⟨?_, hv⟩
    rw [hget k hkn, ho]
    simp [hnk]
  have hDd : ∀ (k : Nat) (t : Tmp) (v : Value), D[k]? = some (some t, v) → k < n ∧ k ∉ nw ∧ ∃ o, l[k]? = some o ∧ o.dst = some t := by
    intro k t v hk
    have hkn : k < n := by rw [← hDl]; exact (List.getElem?_eq_some_iff.1 hk).1
    rw [← hD, List.getElem?_zip_eq_some] at hk
    obtain ⟨h1, _⟩ := hk
    rw [hget k hkn, Option.map_eq_some_iff] at h1
    obtain ⟨o, ho, hd⟩ := h1
    by_cases hnk : k ∈ nw
    · simp [hnk] at hd
    · rw [if_neg hnk] at hd
      exact ⟨hkn, hnk, o, ho, hd⟩
  have huniq : ∀ (j k : Nat) (t : Tmp) (u v : Value), k ≠ j → D[k]? = some (some t, u) → D[j]? ≠ some (some t, v) := by
    intro j k t u v hkj h1 h2
    obtain ⟨hkn, _, ok, hok', hdk⟩ := hDd k _ u h1
    obtain ⟨hjn, _, oj, hoj, hdj⟩ := hDd j _ v h2
    exact (g.pair k j ok oj t hkn hjn hkj (by simpa using hok') (by simpa using hoj) hdk).1 hdj
  -- .. with the new ones' values
  obtain ⟨F, hF⟩ : ∃ F : Sig → Nat → Option (Option Tmp × Value), ∀ σ k, F σ k = if k ∈ nw then (l[k]?).map fun o => (o.dst, (σ k).getD undef) else D[k]? := ⟨_, fun _ _ => rfl⟩
  have hFd : ∀ (σ : Sig) (k : Nat) (t : Tmp) (v : Value), F σ k = some (some t, v) → k < n ∧ ∃ o, l[k]? = some o ∧ o.dst = some t := by
    intro σ k t v hk
    rw [hF] at hk
    by_cases hnk : k ∈ nw
    · rw [if_pos hnk, Option.map_eq_some_iff] at hk
      obtain ⟨o, ho, hd⟩ := hk
      exact ⟨g.newLt k hnk, o, ho, by simp at hd; exact hd.1⟩
    · rw [if_neg hnk] at hk
      obtain ⟨h1, _, h3⟩ := hDd k t v hk
      exact ⟨h1, h3⟩
  have hFu : ∀ (σ : Sig) (j k : Nat) (t : Tmp) (u v : Value), k ≠ j → F σ k = some (some t, u) → F σ j ≠ some (some t, v) := by
    intro σ j k t u v hkj h1 h2
    obtain ⟨hkn, ok, hok', hdk⟩ := hFd σ k _ u h1
    obtain ⟨hjn, oj, hoj, hdj⟩ := hFd σ j _ v h2
    exact (g.pair k j ok oj t hkn hjn hkj (by simpa using hok') (by simpa using hoj) hdk).1 hdj
  have hend : ∀ (E : Nat → Prop) (a' : Act) (σ : Sig), (∀ k, k < n → E k) → Agree (F σ) E a a' → a' = putNew l nw σ (frames D a) := by
    intro E a' σ hall hA
    have hB := agree_frames D huniq a n (by omega)
    rw [List.take_of_length_le (by omega)] at hB
    obtain ⟨k1, k2⟩ := putNew_keeps l σ nw (frames D a)
    refine act_ext ?_ (hA.defers.trans (hB.defers.symm.trans k1.symm))
    apply Array.ext_getElem?
    intro t
    by_cases hts : t < a.tmps.size
    · by_cases hw : ∃ (k : Nat) (v : Value), F σ k = some (some t, v)
      · obtain ⟨k, v, hkv⟩ := hw
        obtain ⟨hkn, o, ho, hd⟩ := hFd σ k _ v hkv
        rw [hA.wrote k t v (hall k hkn) hkv hts]
        have hkv' := hkv
        rw [hF] at hkv
        by_cases hnk : k ∈ nw
        · rw [if_pos hnk, ho] at hkv
          simp at hkv
          rw [putNew_new l σ t k nw _ hnk (by simp [ho, hd]) (fun j hj hdj => ?_) (by rw [hB.size]; exact hts), hkv.2]
          by_cases hjk : j = k
          · exact hjk
          · exfalso
            cases hlj : l[j]? with
            | none => rw [hlj] at hdj; cases hdj
            | some oj =>
              rw [hlj] at hdj
              refine hFu σ j k t v ((σ j).getD undef) (Ne.symm hjk) hkv' ?_
              rw [hF, if_pos hj, hlj]
              simp at hdj
              simp [hdj]
        · rw [if_neg hnk] at hkv
          rw [putNew_old l σ t nw _ fun j hj hdj => ?_, hB.wrote k t v hkn hkv hts]
          cases hlj : l[j]? with
          | none => rw [hlj] at hdj; cases hdj
          | some oj =>
            rw [hlj] at hdj
            refine hFu σ j k t v ((σ j).getD undef) (fun e => hnk (e ▸ hj)) hkv' ?_
            rw [hF, if_pos hj, hlj]
            simp at hdj
            simp [hdj]
      · rw [hA.kept t fun k v _ hkv => hw ⟨k, v, hkv⟩, putNew_old l σ t nw _ fun j hj hdj => ?_, hB.kept t fun k v _ hkv => ?_]
        · obtain ⟨_, hnk, _⟩ := hDd k t v hkv
          exact hw ⟨k, v, by rw [hF, if_neg hnk]; exact hkv⟩
        · cases hlj : l[j]? with
          | none => rw [hlj] at hdj; cases hdj
          | some oj =>
            rw [hlj] at hdj
            refine hw ⟨j, (σ j).getD undef, ?_⟩
            rw [hF, if_pos hj, hlj]
            simp at hdj
            simp [hdj]
    · rw [Array.getElem?_eq_none (show a'.tmps.size ≤ t from by rw [hA.size]; exact Nat.le_of_not_lt hts), Array.getElem?_eq_none (show (putNew l nw σ (frames D a)).tmps.size ≤ t from by rw [k2, hB.size]; exact Nat.le_of_not_lt hts)]
  have main : ∀ (fuel : Nat) (listed : Array Bool) (a' : Act) (w' : World) (σ : Sig), listed.size = l.length → left listed = fuel → (∀ j, n ≤ j → j < l.length → listed.getD j true = false) →
      (∀ k o, k < l.length → listed.getD k true = true → l[k]? = some o → ∀ e ∈ o.after, Region.binds .any e = true → listed.getD e.on false = true) →
      (∀ k ∈ nw, listed.getD k true = true → (σ k).isSome = true) → (∀ k ∈ tw, (listed.getD k true = true → (σ k).isSome = true) ∧ (listed.getD k true = false → σ k = none)) → (∀ p ∈ pre, listed.getD p true = true) →
      Agree (F σ) (fun k => k < n ∧ listed.getD k true = true) a a' → S σ w' → wpAny P .any l.toArray Q fuel listed a' w' := by
    intro fuel
    induction fuel with
    | zero =>
      intro listed a' w' σ hs hl ht hc hσ hτ hP hA hSw
      have hall : ∀ k, k < l.length → listed.getD k true = true := fun k hk => by
        cases hkk : listed.getD k true with
        | true => rfl
        | false => have := left_pos (j := k) (by omega) hkk; omega
      have hn : n = l.length := by
        rcases Nat.lt_or_ge n l.length with h | h
        · have := hall n h; rw [ht n (Nat.le_refl _) h] at this; cases this
        · omega
      refine tail_any g 0 n listed a' w' hs (Nat.le_refl _) (fun k _ hk => hall k hk) ht hl ?_
      rw [hend _ a' σ (fun k hk => ⟨hk, hall k (by omega)⟩) hA]
      exact hR σ w' (fun k hk => hσ k hk (hall k (by have := g.newLt k hk; omega))) (fun k hk => (hτ k hk).1 (hall k (by have := (htw k hk).1; omega))) hSw
    | succ fuel ih =>
      intro listed a' w' σ hs hl ht hc hσ hτ hP hA hSw
      by_cases hpre : ∀ k, k < n → listed.getD k true = true
      · refine tail_any g (fuel + 1) n listed a' w' hs (Nat.le_refl _) (fun k hk _ => hpre k hk) ht hl ?_
        rw [hend _ a' σ (fun k hk => ⟨hk, hpre k hk⟩) hA]
        exact hR σ w' (fun k hk => hσ k hk (hpre k (g.newLt k hk))) (fun k hk => (hτ k hk).1 (hpre k (htw k hk).1)) hSw
      · -- the least that is not listed is ready
        have hex : ∃ k, k < n ∧ listed.getD k true = false := by
          rcases Classical.em (∃ k, k < n ∧ listed.getD k true = false) with h | h
          · exact h
          · exact absurd (fun k hk => by
              cases hkk : listed.getD k true with
              | true => rfl
              | false => exact absurd ⟨k, hk, hkk⟩ h) hpre
        obtain ⟨m, hm, hmin⟩ : ∃ m, (m < n ∧ listed.getD m true = false) ∧ ∀ k, k < m → listed.getD k true = true := by
          obtain ⟨k, hk⟩ := hex
          induction k using Nat.strongRecOn with
          | _ k ihk =>
            rcases Classical.em (∃ j, j < k ∧ listed.getD j true = false) with ⟨j, hj, hjl⟩ | h
            · exact ihk j hj ⟨by omega, hjl⟩
            · refine ⟨k, hk, fun j hj => ?_⟩
              cases hjj : listed.getD j true with
              | true => rfl
              | false => exact absurd ⟨j, hj, hjj⟩ h
        obtain ⟨om, hom⟩ : ∃ o, l[m]? = some o := ⟨_, List.getElem?_eq_getElem (by omega)⟩
        have hready : m ∈ Region.ready .any l.toArray listed := mem_ready.2 ⟨by simp; omega, hm.2, om, by simpa using hom, fun e he hb => by
          have := g.low m om (by simpa using hom) e he hb
          rw [← getD_tf (by omega)]
          exact hmin _ this⟩
        refine ⟨fun h => (by rw [h] at hready; cases hready), fun i hi => ?_⟩
        obtain ⟨hi1, hi2, o, ho, hi3⟩ := mem_ready.1 hi
        have hi1 : i < l.length := by simpa using hi1
        have hol : l[i]? = some o := by simpa using ho
        have hin : i < n := by
          rcases Nat.lt_trichotomy i n with h | h | h
          · exact h
          · -- all that it waits for, and so all, are listed
            subst h
            have hall : ∀ d k, i - k = d → k < i → listed.getD k true = true := by
              intro d
              induction d using Nat.strongRecOn with
              | _ d ihd =>
                intro k hd hk
                by_cases hpk : k ∈ pre
                · exact hP k hpk
                obtain ⟨j, hkj, hji, oj, hoj, hwj⟩ := g.sink (by simpa using hi1) k hk hpk
                obtain ⟨e, he, hb, heq⟩ := waits_spec hwj
                rw [getD_tf (by omega), ← heq]
                rcases Nat.lt_or_ge j i with hlt | hge
                · have hjl := ihd (i - j) (by omega) j rfl hlt
                  exact hc j oj (by omega) hjl (by simpa using hoj) e he hb
                · have : j = i := by omega
                  subst this
                  rw [ho] at hoj
                  cases hoj
                  exact hi3 e he hb
            have := hall _ m rfl hm.1
            rw [hm.2] at this
            cases this
          · obtain ⟨e, he, hb, heq⟩ := waits_spec (g.chain i o h (by simpa using hol))
            have := hi3 e he hb
            rw [heq, ← getD_tf (by omega), ht (i - 1) (by omega) (by omega)] at this
            cases this
        obtain ⟨v, hv, hcase⟩ := hk i o (by simp [hin, hol])
        have hAi := agree_frames D huniq a i (by omega)
        have hsame := same_op (ops := l.toArray) (o := o) (a := frames (D.take i) a) (a' := a') (g.noSel i o ho) (by
          intro t htl
          by_cases hw : ∃ (k : Nat) (u : Value), F σ k = some (some t, u)
          · obtain ⟨k, u, hku⟩ := hw
            obtain ⟨hkn, ok, hok', hdk⟩ := hFd σ k _ u hku
            have hnk : k ∉ nw := fun hnk => g.newApart k hnk ok t (by simpa using hok') hdk i o hin ho htl
            have hDu : D[k]? = some (some t, u) := by rw [hF, if_neg hnk] at hku; exact hku
            by_cases hts : t < a.tmps.size
            · have hki : k ≠ i := fun e => by
                subst e
                rw [hol] at hok'
                cases hok'
                exact g.own k o t hkn ho hdk htl
              rcases (g.pair k i ok o t hkn hin hki (by simpa using hok') ho hdk).2 with h1 | ⟨hlt, hwt⟩ | ⟨hlt, hwt⟩
              · exact absurd htl h1
              · obtain ⟨e, he, hb, heq⟩ := waits_spec hwt
                have hkl : listed.getD k true = true := by
                  rw [getD_tf (by omega), ← heq]; exact hi3 e he hb
                rw [hA.wrote k t u ⟨hkn, hkl⟩ hku hts, hAi.wrote k t u hlt hDu hts]
              · obtain ⟨e, he, hb, heq⟩ := waits_spec hwt
                have hkl : ¬ listed.getD k true = true := fun hkl => by
                  have := hc k ok (by omega) hkl hok' e he hb
                  rw [heq, ← getD_tf (by omega), hi2] at this
                  cases this
                rw [hA.kept t fun k' u' hk' hD' => ?_, hAi.kept t fun k' u' hk' hD' => ?_]
                · by_cases hkk : k' = k
                  · subst hkk; omega
                  · exact huniq k k' t u' u hkk hD' hDu
                · by_cases hkk : k' = k
                  · subst hkk; exact hkl hk'.2
                  · exact hFu σ k k' t u' u hkk hD' hku
            · rw [Array.getElem?_eq_none (show a'.tmps.size ≤ t from by rw [hA.size]; exact Nat.le_of_not_lt hts), Array.getElem?_eq_none (show (frames (D.take i) a).tmps.size ≤ t from by rw [hAi.size]; exact Nat.le_of_not_lt hts)]
          · rw [hA.kept t fun k v _ hkv => hw ⟨k, v, hkv⟩, hAi.kept t fun k v _ hkv => ?_]
            obtain ⟨_, hnk, _⟩ := hDd k t v hkv
            exact hw ⟨k, v, by rw [hF, if_neg hnk]; exact hkv⟩)
        have hset : ∀ k b, (listed.setIfInBounds i true).getD k b = if k = i then true else listed.getD k b := by
          intro k b
          by_cases hki : k = i
          · subst hki; simp [hs, hi1]
          · have : i ≠ k := Ne.symm hki
            simp [Array.getElem?_setIfInBounds_ne this, hki]
        have next : ∀ (σ' : Sig) (u : Value) w'', F σ' i = some (o.dst, u) → Agree (F σ') (fun k => k < n ∧ listed.getD k true = true) a a' → (∀ k ∈ nw, (listed.setIfInBounds i true).getD k true = true → (σ' k).isSome = true) → (∀ k ∈ tw, ((listed.setIfInBounds i true).getD k true = true → (σ' k).isSome = true) ∧ ((listed.setIfInBounds i true).getD k true = false → σ' k = none)) → S σ' w'' →
            wpAny P .any l.toArray Q fuel (listed.setIfInBounds i true) (a'.put o.dst u) w'' := by
          intro σ' u w'' hFi hA' hσ' hτ' hSw''
          refine ih _ _ w'' σ' (by simpa using hs) (by have := left_set (j := i) (by omega) hi2; omega) ?_ ?_ hσ' hτ' (fun p hp => by rw [hset]; split <;> first | rfl | exact hP p hp) ?_ hSw''
          · intro j hj hjl
            rw [hset, if_neg (by omega)]
            exact ht j hj hjl
          · intro k ok hkl hkt hok' e he hb
            rw [hset]
            split
            · rfl
            · rw [hset] at hkt
              by_cases hki : k = i
              · subst hki
                rw [hol] at hok'
                cases hok'
                exact hi3 e he hb
              · rw [if_neg hki] at hkt
                exact hc k ok hkl hkt hok' e he hb
          · have := hA'.put (j := i) hFi (fun k t u' hki hD' e => hFu σ' i k t u' u hki hD' (by rw [hFi, e]))
            refine ⟨this.defers, this.size, fun k t u hk => this.wrote k t u ?_, fun t ht => this.kept t fun k u hk => ht k u ?_⟩
            · obtain ⟨h1, h2⟩ := hk
              rw [hset] at h2
              by_cases hki : k = i
              · exact .inr hki
              · rw [if_neg hki] at h2; exact .inl ⟨h1, h2⟩
            · rw [hset]
              rcases hk with ⟨h1, h2⟩ | rfl
              · exact ⟨h1, by split <;> first | rfl | exact h2⟩
              · exact ⟨hin, by simp⟩
        have hσset : i ∉ nw → ∀ k ∈ nw, (listed.setIfInBounds i true).getD k true = true → (σ k).isSome = true := fun hni k hk hkl => by
          rw [hset, if_neg (fun (e : k = i) => hni (e ▸ hk))] at hkl
          exact hσ k hk hkl
        have hτset : i ∉ tw → ∀ k ∈ tw, ((listed.setIfInBounds i true).getD k true = true → (σ k).isSome = true) ∧ ((listed.setIfInBounds i true).getD k true = false → σ k = none) := fun hni k hk => by
          rw [hset, if_neg (fun (e : k = i) => hni (e ▸ hk))]
          exact hτ k hk
        unfold wpOp
        simp only [ho]
        rcases hcase with ⟨hni, hn1⟩ | ⟨hni, hw1, hc1⟩ | ⟨hni, hw1, rfl⟩
        · have hg := g.newPlain i hni o ho
          rw [show Region.wanted o (yielded l.toArray a'.tmps) = true by simp [Region.wanted, hg]]
          refine .inl (hn1.at hsame.1 (by rw [hAi.size, hA.size]) hSw (fun k hk ⟨e, he, hb, hek⟩ => (hτ k hk).1 (by rw [← hek]; have := hi3 e he hb; rw [getD_tf (by have := (htw k hk).1; omega)]; exact this)) _ _ fun u w'' hSu => ?_)
          refine next (σ.upd i u) u w'' (by rw [hF, if_pos hni, hol]; simp [Sig.upd]) ?_ ?_ ?_ hSu
          · have hne : ∀ k, (k < n ∧ listed.getD k true = true) → F (σ.upd i u) k = F σ k := fun k hk => by
              have hki : k ≠ i := fun e => by subst e; rw [hi2] at hk; cases hk.2
              rw [hF, hF]
              simp [Sig.upd, hki]
            exact ⟨hA.defers, hA.size, fun k t u' hk hD' => hA.wrote k t u' hk (by rw [← hne k hk]; exact hD'), fun t ht => hA.kept t fun k u' hk => by rw [← hne k hk]; exact ht k u' hk⟩
          · intro k hk hkl
            by_cases hki : k = i
            · simp [Sig.upd, hki]
            · rw [hset, if_neg hki] at hkl
              simpa [Sig.upd, hki] using hσ k hk hkl
          · intro k hk
            have hki : k ≠ i := fun e => (htw k hk).2.1 (e ▸ hni)
            rw [hset, if_neg hki]
            simpa [Sig.upd, hki] using hτ k hk
        · rw [hsame.2, hw1]
          by_cases hit : i ∈ tw
          · refine .inl (hc1.at hsame.1 (by rw [hAi.size, hA.size]) hSw (fun hit => (hτ i hit).2 hi2) (fun k hk ⟨e, he, hb, hek⟩ => (hτ k hk).1 (by rw [← hek]; have := hi3 e he hb; rw [getD_tf (by have := (htw k hk).1; omega)]; exact this)) _ _ fun w'' hSu => next (σ.upd i v) v w'' (by rw [hF, if_neg hni]; exact hDk i o v hin hni hol hv) ?_ ?_ ?_ (by rw [trk, if_pos hit] at hSu; exact hSu))
            · have hne : ∀ k, (k < n ∧ listed.getD k true = true) → F (σ.upd i v) k = F σ k := fun k hk => by
                have hki : k ≠ i := fun e => by subst e; rw [hi2] at hk; cases hk.2
                rw [hF, hF]
                simp [Sig.upd, hki]
              exact ⟨hA.defers, hA.size, fun k t u' hk hD' => hA.wrote k t u' hk (by rw [← hne k hk]; exact hD'), fun t ht => hA.kept t fun k u' hk => by rw [← hne k hk]; exact ht k u' hk⟩
            · intro k hk hkl
              by_cases hki : k = i
              · simp [Sig.upd, hki]
              · rw [hset, if_neg hki] at hkl
                simpa [Sig.upd, hki] using hσ k hk hkl
            · intro k hk
              rw [hset]
              by_cases hki : k = i
              · simp [Sig.upd, hki]
              · rw [if_neg hki]
                simpa [Sig.upd, hki] using hτ k hk
          · exact .inl (hc1.at hsame.1 (by rw [hAi.size, hA.size]) hSw (fun hit => (hτ i hit).2 hi2) (fun k hk ⟨e, he, hb, hek⟩ => (hτ k hk).1 (by rw [← hek]; have := hi3 e he hb; rw [getD_tf (by have := (htw k hk).1; omega)]; exact this)) _ _ fun w'' hSu => next σ v w'' (by rw [hF, if_neg hni]; exact hDk i o v hin hni hol hv) hA (hσset hni) (hτset hit) (by rw [trk, if_neg hit] at hSu; exact hSu))
        · rw [hsame.2, hw1]
          have hit : i ∉ tw := fun hit => by
            have := (htw i hit).2.2.2 o hol
            simp [Region.wanted, this] at hw1
          exact next σ undef w' (by rw [hF, if_neg hni]; exact hDk i o undef hin hni hol hv) hA (hσset hni) (hτset hit) hSw
  refine main _ listed0 a0 w Sig.no hs0 rfl (fun j hnj hj => ?_) (fun k o hk hkt ho e he hb => ?_) (fun k hk hkt => ?_) (fun k hk => ?_) hp0 ?_ hS
  · cases hjj : listed0.getD j true with
    | false => rfl
    | true =>
      have := (g.preAny j (hl0 j hj hjj)).1
      omega
  · obtain ⟨_, _, o', ho', _, haf⟩ := g.preAny k (hl0 k hk hkt)
    obtain rfl : o' = o := by simpa [ho] using ho'.symm
    have := g.low k o' (by simpa using ho) e he hb
    rw [← getD_tf (by omega)]
    exact hp0 _ (haf e he hb)
  · exact absurd hk (g.preAny k (hl0 k (by have := g.newLt k hk; omega) hkt)).2.1
  · exact ⟨fun hkt => absurd (hl0 k (by have := (htw k hk).1; omega) hkt) (htw k hk).2.2.1, fun _ => rfl⟩
  · have step : ∀ (r done : List Nat) (a1 : Act), (∀ x ∈ r, x ∈ pre) → preOk l.toArray n nw done r = true → PreRun P l r a1 a0 → Agree (F Sig.no) (fun k => k ∈ done) a a1 →
        (∀ k ∈ done, ∀ o, l[k]? = some o → ∀ e ∈ o.after, Region.binds .any e = true → e.on ∈ done) → Agree (F Sig.no) (fun k => k ∈ r ∨ k ∈ done) a a0 := by
      intro r
      induction r with
      | nil =>
        intro done a1 _ _ hr hA _
        obtain rfl : a0 = a1 := hr
        simpa using hA
      | cons p r ih =>
        intro done a1 hrp hpo hr hA hcl
        obtain ⟨hpn, hpw, hpd, ⟨o, hop, hgd, haf⟩, hpo'⟩ := preOk_cons hpo
        have hop : l[p]? = some o := by simpa using hop
        obtain ⟨o', v, ho', hrun, hr'⟩ := hr
        obtain rfl : o' = o := by simpa [hop] using ho'.symm
        obtain ⟨u, hu, hcase⟩ := hk p o' (by simp [hpn, hop])
        have hAi := agree_frames D huniq a p (by omega)
        have hsame := same_op (ops := l.toArray) (o := o') (a := a1) (a' := frames (D.take p) a) (g.noSel p o' (by simpa using hop)) (by
          intro t htl
          by_cases hts : t < a.tmps.size
          · by_cases hw : ∃ (k : Nat) (u : Value), F Sig.no k = some (some t, u)
            · obtain ⟨k, x, hkx⟩ := hw
              obtain ⟨hkn, ok, hok', hdk⟩ := hFd Sig.no k _ x hkx
              have hnk : k ∉ nw := fun hnk => g.newApart k hnk ok t (by simpa using hok') hdk p o' hpn (by simpa using hop) htl
              have hDu : D[k]? = some (some t, x) := by rw [hF, if_neg hnk] at hkx; exact hkx
              have hkp : k ≠ p := fun e => by
                subst e
                rw [hop] at hok'
                cases hok'
                exact g.own k o' t hkn (by simpa using hop) hdk htl
              rcases (g.pair k p ok o' t hkn hpn hkp (by simpa using hok') (by simpa using hop) hdk).2 with h1 | ⟨hlt, hwt⟩ | ⟨hlt, hwt⟩
              · exact absurd htl h1
              · obtain ⟨e, he, hb, heq⟩ := waits_spec hwt
                have hkd : k ∈ done := heq ▸ haf e he hb
                rw [hA.wrote k t x hkd hkx hts, hAi.wrote k t x hlt hDu hts]
              · obtain ⟨e, he, hb, heq⟩ := waits_spec hwt
                have hkd : k ∉ done := fun hkd => hpd (heq ▸ hcl k hkd ok hok' e he hb)
                rw [hA.kept t fun k' u' hk' hD' => ?_, hAi.kept t fun k' u' hk' hD' => ?_]
                · by_cases hkk : k' = k
                  · subst hkk; omega
                  · exact huniq k k' t u' x hkk hD' hDu
                · by_cases hkk : k' = k
                  · subst hkk; exact hkd hk'
                  · exact hFu Sig.no k k' t u' x hkk hD' hkx
            · rw [hA.kept t fun k v _ hkv => hw ⟨k, v, hkv⟩, hAi.kept t fun k v _ hkv => ?_]
              obtain ⟨_, hnk, _⟩ := hDd k t v hkv
              exact hw ⟨k, v, by rw [hF, if_neg hnk]; exact hkv⟩
          · rw [Array.getElem?_eq_none (show (frames (D.take p) a).tmps.size ≤ t from by rw [hAi.size]; exact Nat.le_of_not_lt hts), Array.getElem?_eq_none (show a1.tmps.size ≤ t from by rw [hA.size]; exact Nat.le_of_not_lt hts)])
        have hput : a1.put o'.dst v = a1.put o'.dst u := by
          rcases hcase with ⟨hni, _⟩ | ⟨_, _, hc1⟩ | ⟨_, hw1, _⟩
          · exact absurd hni hpw
          · have h1 := hc1.at (a' := a1) hsame.1.symm (by rw [hAi.size, hA.size]) hS (fun _ => rfl) (fun k hk hd => absurd hd (hpd0 p (hrp p (by simp)) o' (by simpa using hop) k hk)) (fun a2 _ => a2 = a1.put o'.dst u) (fun _ _ _ => False) (fun _ _ => rfl)
            unfold Oper.wp at h1
            rw [hrun w] at h1
            simpa only [Oper.upon] using h1
          · exfalso
            simp [Region.wanted, hgd] at hw1
        rw [hput] at hr'
        have hFp : F Sig.no p = some (o'.dst, u) := by rw [hF, if_neg hpw]; exact hDk p o' u hpn hpw hop hu
        have hA' := hA.put (j := p) hFp (fun k t u' hki hD' e => hFu Sig.no p k t u' u hki hD' (by rw [hFp, e]))
        have hA2 : Agree (F Sig.no) (fun k => k ∈ p :: done) a (a1.put o'.dst u) :=
          ⟨hA'.defers, hA'.size, fun k t x hk => hA'.wrote k t x (by
            rcases List.mem_cons.1 hk with h | h
            · exact .inr h
            · exact .inl h), fun t ht => hA'.kept t fun k x hk => ht k x (by
            rcases hk with h | h
            · exact List.mem_cons_of_mem _ h
            · exact h ▸ List.mem_cons_self ..)⟩
        have := ih (p :: done) _ (fun x hx => hrp x (by simp [hx])) hpo' hr' hA2 (fun k hk o ho e he hb => by
          rcases List.mem_cons.1 hk with rfl | hk
          · rw [hop] at ho
            cases ho
            exact List.mem_cons_of_mem _ (haf e he hb)
          · exact List.mem_cons_of_mem _ (hcl k hk o ho e he hb))
        refine ⟨this.defers, this.size, fun k t x hk => this.wrote k t x ?_, fun t ht => this.kept t fun k x hk => ht k x ?_⟩
        · rcases hk with hk | hk
          · rcases List.mem_cons.1 hk with rfl | hk
            · exact .inr (List.mem_cons_self ..)
            · exact .inl hk
          · exact .inr (List.mem_cons_of_mem _ hk)
        · rcases hk with hk | hk
          · exact .inl (List.mem_cons_of_mem _ hk)
          · rcases List.mem_cons.1 hk with rfl | hk
            · exact .inl (List.mem_cons_self ..)
            · exact .inr hk
    have h0 : Agree (F Sig.no) (fun k => k ∈ ([] : List Nat)) a a := ⟨rfl, rfl, fun k t v hk _ _ => (by cases hk), fun t _ => rfl⟩
    have := step pre [] a (fun x hx => hx) g.preOrd ha0 h0 (fun k hk => by cases hk)
    refine ⟨this.defers, this.size, fun k t x hk => this.wrote k t x (.inl (hl0 k (by omega) hk.2)), fun t ht => this.kept t fun k x hk => ht k x ?_⟩
    rcases hk with hk | hk
    · exact ⟨(g.preAny k hk).1, hp0 k hk⟩
    · cases hk

theorem wp_region_new {id : Nat} {Q : Exit → Act → World → Prop} {a : Act} {w : World} {l : List Oper} (S : Sig → World → Prop) (n : Nat) (nw tw : List Nat) (htw : ∀ k ∈ tw, k < n ∧ k ∉ nw ∧ ∀ o, l[k]? = some o → o.guard = none) (hm : P.follows .mixedOrders = true) (hok : calmOk l.toArray n nw = true) (hS : S Sig.no w.drew)
    (h : calm P l.toArray S nw tw (fun a' => ∀ σ w', (∀ k ∈ nw, (σ k).isSome = true) → (∀ k ∈ tw, (σ k).isSome = true) → S σ w' → wpList P l.toArray Q (l.drop n) (putNew l nw σ a') w') 0 (l.take n) a) : (Code.region id l.toArray true).wp P Q a w := by
  refine wp_region_any hm ?_
  have hl := left_none l.toArray.size
  have := wpAny_new (a0 := a) S n nw tw [] (fun k hk => ⟨(htw k hk).1, (htw k hk).2.1, by simp, (htw k hk).2.2⟩) (fun p hp => by cases hp) hok hS h (Array.replicate l.toArray.size false) (by simp) (fun k hk hkt => by simp [hk] at hkt) (fun p hp => by cases hp) rfl
  rw [hl] at this
  exact this


theorem calm_value {R : Act → Prop} {a : Act} {o : Oper} {rest : List Oper} {i : Nat} {v : Value} (hi : i ∉ nw) (ht : i ∉ tw) (hw : Region.wanted o (yielded ops a.tmps) = true) (h1 : ∀ σ w, S σ w → (execOp a.eval o).run P w = .ok (.value v) w) (h : calm P ops S nw tw R (i + 1) rest (a.put o.dst v)) : calm P ops S nw tw R i (o :: rest) a :=
  calm_step v hi hw (fun σ w hS _ _ K Q hK => by unfold Oper.wp; rw [h1 σ w hS]; exact hK w (by rw [trk, if_neg ht]; exact hS)) h
theorem calm_track {R : Act → Prop} {a : Act} {o : Oper} {rest : List Oper} {i : Nat} {v : Value} (hi : i ∉ nw) (ht : i ∈ tw) (hw : Region.wanted o (yielded ops a.tmps) = true) (h1 : ∀ σ w, S σ w → σ i = none → (∀ k ∈ tw, Deps o k → (σ k).isSome = true) → ∃ w', (execOp a.eval o).run P w = .ok (.value v) w' ∧ S (σ.upd i v) w') (h : calm P ops S nw tw R (i + 1) rest (a.put o.dst v)) : calm P ops S nw tw R i (o :: rest) a :=
  calm_step v hi hw (fun σ w hS hf hd K Q hK => by
    obtain ⟨w', hr, hs⟩ := h1 σ w hS (hf ht) hd
    unfold Oper.wp
    rw [hr]
    exact hK w' (by rw [trk, if_pos ht]; exact hs)) h
end
end Go.Proofs.Ytljejkdkjnbmhaa.Trd
/- flate: the walk of the fixed codes' lengths. -/
namespace Go.Proofs.Ytljejkdkjnbmhaa
open Go.RowKit

theorem fixL_flat : [List.replicate 144 (8 : Int), List.replicate 112 9, List.replicate 24 7, List.replicate 8 8].flatten = fixL := by
  simp only [List.flatten_cons, List.flatten_nil, List.append_nil]; unfold fixL; simp only [List.append_assoc]
theorem one_row {w : World} {g : Nat} {a : Int} (h : w.heap[g]? = some (.cells #[.int .i64 a] 3)) : Rd w 1 (.slice (some ⟨g, 0, none⟩) 1 1) 1 (nums [a]) := by
  refine ⟨rfl, _, _, rfl, Nat.le_refl _, by decide, by simp, fun ad had j u hu => ?_⟩
  obtain rfl := Option.some.inj had
  rw [Addr.add_lit, Nat.zero_add, cell_of_block h]
  have : j = 0 := by have := (List.getElem?_eq_some_iff.1 hu).1; simpa [nums] using this
  subst this
  exact hu

set_option maxRecDepth 100000 in
set_option maxHeartbeats 3200000 in
theorem fixed_any (w : World) : Calls Try.prog 36 #[] w (Ret fun r w' => ∃ v u, r = .tuple #[v, u] ∧ Own w w' [slc 3 1 u 32 (nums fixD), slc 3 1 v 288 (nums fixL)]) := by
  have H := Own.start w
  go_enter Try.func36, Try.ntmps36
  go_wp2_with fail
  refine (repeat_any 144 (one_row (H.alloc (.cells #[.int .i64 8] 3)).block.1) (by omega)).mono ?_
  rintro e w1 ⟨v1, rfl, H1⟩
  have H := (H.alloc (.cells #[.int .i64 8] 3)).drop.join H1
  obtain ⟨a1, c1, rfl, -⟩ := H.rd.shape
  clear H1
  go_wp2_with fail
  refine (repeat_any 112 (one_row (H.alloc (.cells #[.int .i64 9] 3)).block.1) (by omega)).mono ?_
  rintro e w2 ⟨v2, rfl, H2⟩
  have H := (H.alloc (.cells #[.int .i64 9] 3)).drop.join H2
  obtain ⟨a2, c2, rfl, -⟩ := H.rd.shape
  clear H2
  go_wp2_with fail
  refine (repeat_any 24 (one_row (H.alloc (.cells #[.int .i64 7] 3)).block.1) (by omega)).mono ?_
  rintro e w3 ⟨v3, rfl, H3⟩
  have H := (H.alloc (.cells #[.int .i64 7] 3)).drop.join H3
  obtain ⟨a3, c3, rfl, -⟩ := H.rd.shape
  clear H3
  go_wp2_with fail
  refine (repeat_any 8 (one_row (H.alloc (.cells #[.int .i64 8] 3)).block.1) (by omega)).mono ?_
  rintro e w4 ⟨v4, rfl, H4⟩
  have H := (H.alloc (.cells #[.int .i64 8] 3)).drop.join H4
  obtain ⟨a4, c4, rfl, -⟩ := H.rd.shape
  clear H4
  go_wp2_with fail
  have H5 := H.alloc (.cells #[.slice a1 144 c1, .slice a2 112 c2, .slice a3 24 c3, .slice a4 8 c4] 30)
  have hrow : Rd (w4.alloc (.cells #[.slice a1 144 c1, .slice a2 112 c2, .slice a3 24 c3, .slice a4 8 c4] 30)) 1 (.slice (some ⟨w4.heap.size, 0, none⟩) 4 4) 4 [.slice a1 144 c1, .slice a2 112 c2, .slice a3 24 c3, .slice a4 8 c4] := by
    refine ⟨rfl, _, _, rfl, Nat.le_refl _, by decide, by simp, fun ad had j u hu => ?_⟩
    obtain rfl := Option.some.inj had
    rw [Addr.add_lit, Nat.zero_add, H5.cell]
    simpa using hu
  have h8 := (H5.front 1 rfl).rd
  have h24 := (H5.front 2 rfl).rd
  have h112 := (H5.front 3 rfl).rd
  have h144 := (H5.front 4 rfl).rd
  have hcc := concat_any [List.replicate 144 (8 : Int), List.replicate 112 9, List.replicate 24 7, List.replicate 8 8] [.slice a1 144 c1, .slice a2 112 c2, .slice a3 24 c3, .slice a4 8 c4] hrow rfl rfl (by omega) (fun k u L hu hL => by
    match k with
    | 0 => cases hu; cases hL; exact h144
    | 1 => cases hu; cases hL; exact h112
    | 2 => cases hu; cases hL; exact h24
    | 3 => cases hu; cases hL; exact h8
    | k + 4 => cases hu) (by rw [fixL_flat, fixL_ok.1]; omega)
  rw [fixL_flat, fixL_ok.1] at hcc
  refine hcc.mono ?_
  rintro e w5 ⟨v5, rfl, H6⟩
  have H := H5.bare.join H6
  obtain ⟨a5, c5, rfl, -⟩ := H.rd.shape
  clear H6 H5 hcc hrow h8 h24 h112 h144
  go_wp2_with fail
  refine (repeat_any 32 (one_row (H.alloc (.cells #[.int .i64 5] 3)).block.1) (by omega)).mono ?_
  rintro e w6 ⟨v6, rfl, H6⟩
  have H := (H.alloc (.cells #[.int .i64 5] 3)).drop.join H6
  obtain ⟨a6, c6, rfl, -⟩ := H.rd.shape
  clear H6
  go_wp2_with fail
  go_ret2
  exact ⟨_, rfl, _, _, rfl, H⟩
end Go.Proofs.Ytljejkdkjnbmhaa
/- stream: the walks of table, again. -/
namespace Go.Proofs.Ytljejkdkjnbmhaa
open Go.RowKit

/-- A table, if lengths have one. -/
def TblO (v : Value) (l : List Int) : Piece := if terrF l = 0 then ex fun t => star (fact (v = .pointer (some ⟨t, 0, none⟩))) (Tbl t l) else fact (v = .pointer none)
def eT (l : List Int) (e : Int) : Int := if terrF l = 0 then e else if e = 0 then 2 else e
theorem Own.tblo {w0 w : World} {ps : List Piece} {v : Value} {l : List Int} (H : Own w0 w (TblO v l :: ps)) (h : terrF l = 0) : ∃ t, v = .pointer (some ⟨t, 0, none⟩) ∧ Own w0 w (Tbl t l :: ps) := by
  unfold TblO at H
  rw [if_pos h] at H
  obtain ⟨t, H⟩ := H.ex
  obtain ⟨hv, H⟩ := H.star.fact
  exact ⟨t, hv, H⟩
set_option maxRecDepth 100000 in
set_option maxHeartbeats 1600000 in
theorem pttable_g {w0 w : World} {ps : List Piece} {g rg n m : Nat} {l : List Int} {v : Value} {s : ByteArray} {e : Int} (hr : Rd w 1 v m (nums l)) (hm : m ≤ 1000000) (H : Own w0 w (Prt g rg s n e :: ps)) :
    Calls Try.prog 50 #[.pointer (some ⟨g, 0, none⟩), v] w (Ret fun r w' => Own w0 w' (TblO r l :: Prt g rg s n (eT l e) :: ps)) := by
  have HN := Lib.hid (hnew_any hr hm)
  obtain ⟨x, hx⟩ : ∃ x, Hid (terrF l = x) := ⟨_, rfl⟩
  rw [hx.out] at HN
  obtain ⟨a, c, rfl, _, _⟩ := hr.shape
  clear hr
  obtain ⟨E, hE⟩ : ∃ E, Hid (eT l e = E) := ⟨_, rfl⟩
  rw [hE.out]
  go_enter Try.func50, Try.ntmps50
  go_wp2_with fail
  refine HN.out.mono ?_
  rintro e1 w1 ⟨_, rfl, pv, rfl, hn1, hn2⟩
  replace hn1 := Lib.hid hn1
  replace hn2 := Lib.hid hn2
  by_cases h0 : x = 0
  · subst h0
    have hEE : Hid (e = E) := Lib.hid (by rw [← hE.out]; unfold eT; rw [if_pos hx.out])
    obtain ⟨t, rfl, H1⟩ := hn2.out rfl
    have H2 := H.join H1
    have H3 : Own w0 w1 (TblO (.pointer (some ⟨t, 0, none⟩)) l :: Prt g rg s n e :: ps) := by
      unfold TblO
      rw [if_pos hx.out]
      exact Own.unex (f := fun t' => Go.Proofs.Ytljejkdkjnbmhaa.star (Go.Proofs.Ytljejkdkjnbmhaa.fact (Value.pointer (some ⟨t, 0, none⟩) = .pointer (some ⟨t', 0, none⟩))) (Tbl t' l)) t ((H2.unfact rfl).unstar)
    clear H1 H H2 HN
    go_wp2
    go_ret
    exact ⟨_, rfl, by rw [← hEE.out]; exact H3⟩
  · obtain ⟨rfl, H1⟩ := hn1.out h0
    have hEE : Hid ((if e = 0 then 2 else e) = E) := Lib.hid (by rw [← hE.out]; exact (if_neg (by rw [hx.out]; exact h0)).symm)
    have H2 := H.join H1
    have HH := Lib.hid (ptfail_any (g := g) (rg := rg) H2)
    rw [hEE.out] at HH
    have hb : (x == 0) = false := by simp [h0]
    clear H1 H HN hn1 hn2
    go_wp2_with fail
    refine HH.out.mono ?_
    rintro e1 w2 ⟨_, rfl, H3⟩
    have H4 : Own w0 w2 (TblO (.pointer none) l :: Prt g rg s n E :: ps) := by
      unfold TblO
      rw [if_neg (by rw [hx.out]; exact h0)]
      exact H3.unfact rfl
    go_wp2
    go_ret
    exact ⟨_, rfl, H4⟩
/-- What is there behind a length again: as it was, if something is amiss. -/
def agM (N : Nat) (l : List Int) (k : Nat) (x e : Int) : List Int := if e = 0 then agL N l k x else l
theorem agM_zero {N k : Nat} {l : List Int} {x : Int} : agM N l k x 0 = agL N l k x := if_pos rfl
theorem agM_ne {N k : Nat} {l : List Int} {x e : Int} (h : e ≠ 0) : agM N l k x e = l := if_neg h
theorem agE_ne {N k : Nat} {l : List Int} {e : Int} (h : e ≠ 0) : agE N l k e = e := by
  unfold agE
  rw [if_neg h]
  split <;> rfl
theorem agM_len {N k : Nat} {l : List Int} {x e : Int} (h : l.length ≤ N) : (agM N l k x e).length ≤ N := by
  unfold agM
  split
  · exact agL_len h
  · exact h
set_option maxRecDepth 100000 in
set_option maxHeartbeats 1600000 in
theorem ptagain_any {w0 w : World} {ps : List Piece} {g rg n : Nat} {s : ByteArray} {l : List Int} {lv : Value} {e : Int} (x : Int) (k N : Nat) (hk : k ≤ 70000) (hN : N ≤ 1000) (hl : l.length ≤ N)
    (H : Own w0 w (slc 3 1 lv l.length (nums l) :: Prt g rg s n e :: ps)) :
    Calls Try.prog 67 #[.pointer (some ⟨g, 0, none⟩), lv, .int .i64 x, .int .i64 k, .int .i64 N] w (Ret fun r w' => Own w0 w' (slc 3 1 r (agM N l k x e).length (nums (agM N l k x e)) :: Prt g rg s n (agE N l k e) :: ps)) := by
  have HK := Lib.hid (ptok_any (H.front 1 rfl))
  obtain ⟨a, c, rfl, h1, h2⟩ := H.rd.shape
  by_cases he : e = 0
  case neg =>
    rw [agM_ne he, agE_ne he]
    rw [decide_eq_false he] at HK
    obtain ⟨M, hM⟩ : ∃ M, Hid (l.length = M) := ⟨_, rfl⟩
    rw [hM.out] at H ⊢
    clear he
    go_enter Try.func67, Try.ntmps67
    go_wp2_with fail
    refine HK.out.mono ?_
    rintro e1 w1 ⟨rfl, rfl⟩
    go_wp2_with fail
    refine HK.out.mono ?_
    rintro e1 w1 ⟨rfl, rfl⟩
    go_wp2
    go_ret
    exact ⟨_, rfl, H⟩
  subst he
  rw [decide_eq_true rfl] at HK
  rw [agM_zero]
  obtain ⟨L', hL'⟩ : ∃ L', Hid (agL N l k x = L') := ⟨_, rfl⟩
  obtain ⟨E', hE'⟩ : ∃ E', Hid (agE N l k 0 = E') := ⟨_, rfl⟩
  rw [hL'.out, hE'.out]
  have HF := Lib.hid (ptfail_any (H.front 1 rfl))
  rw [if_pos rfl] at HF
  obtain ⟨M, hM⟩ : ∃ M, Hid (l.length = M) := ⟨_, rfl⟩
  by_cases hlt : N < l.length + k
  · have e1 : Hid (l = L') := Lib.hid (by rw [← hL'.out]; unfold agL; rw [if_pos hlt])
    have e2 : Hid (2 = E') := Lib.hid (by rw [← hE'.out]; unfold agE; rw [if_pos hlt, if_pos rfl])
    rw [← e1.out, ← e2.out]
    rw [hM.out] at hl hlt H HF h1 ⊢
    have hw : IntKind.i64.wrap ((N : Int) - M) = N - M := IntWalk.i64_in _ ⟨by omega, by omega⟩
    have hlt2 : (N : Int) - M < k := by omega
    go_enter Try.func67, Try.ntmps67
    go_wp2_with fail
    refine HK.out.mono ?_
    rintro e1 w1 ⟨rfl, rfl⟩
    go_wp2_with fail
    refine HF.out.mono ?_
    rintro e1 w1 ⟨_, rfl, H1⟩
    have HK2 := Lib.hid (ptok_any H1)
    rw [decide_eq_false (by decide)] at HK2
    clear HK HF H
    go_wp2_with fail
    refine HK2.out.mono ?_
    rintro e1 w2 ⟨rfl, rfl⟩
    go_wp2
    go_ret
    exact ⟨_, rfl, H1.swap⟩
  · have e1 : Hid (l ++ List.replicate k x = L') := Lib.hid (by rw [← hL'.out]; unfold agL; rw [if_neg hlt])
    have e2 : Hid (0 = E') := Lib.hid (by rw [← hE'.out]; unfold agE; rw [if_neg hlt])
    rw [← e1.out, ← e2.out]
    have hlen : M + k = (l ++ List.replicate k x).length := by rw [List.length_append, List.length_replicate, hM.out]
    rw [← hlen, ← nums_append]
    clear hlen
    rw [hM.out] at hl hlt H h1 ⊢
    have hw : IntKind.i64.wrap ((N : Int) - M) = N - M := IntWalk.i64_in _ ⟨by omega, by omega⟩
    have hlt2 : ¬ (N : Int) - M < k := by omega
    clear HF
    go_enter Try.func67, Try.ntmps67
    go_wp2_with fail
    refine HK.out.mono ?_
    rintro e1 w1 ⟨rfl, rfl⟩
    go_wp2_with fail
    refine HK.out.mono ?_
    rintro e1 w1 ⟨rfl, rfl⟩
    clear HK
    go_wp2_with fail
    have HA := H.alloc (.cells #[.int .i64 x] 3)
    refine (repeat_any k (one_row HA.block.1) (by omega)).mono ?_
    rintro e1 w3 ⟨v3, rfl, h3⟩
    have HD := HA.join h3
    clear HA h3 H
    obtain ⟨a4, c4, rfl, -⟩ := HD.rd.shape
    have hx := HD.rd
    have H3 := HD.front 2 rfl
    clear HD
    go_wp2_with (at_builtin; refine wpList_append_sep rfl _ _ rfl Try.underlying30 intInfo rfl (by decide) rfl H3 hx (nums_one _) (by omega) (by omega) ?_; clear H3 hx; intro v' w' H; obtain ⟨a', c', rfl, h1', h2'⟩ := H.rd.shape)
    go_ret
    exact ⟨_, rfl, (H.front 1 rfl).drop.front 1 rfl |>.drop⟩
end Go.Proofs.Ytljejkdkjnbmhaa
/- stream: the walk of lengths. -/
namespace Go.Proofs.Ytljejkdkjnbmhaa
open Go.RowKit

/-- A part's state, as its cells say. -/
def isB : Value → Bool
  | .bool b => b
  | _ => false
def stOf (sh er : Value) : Int := if isB sh then -1 else intOf er
theorem stOf_se (e : Int) : stOf (.bool (shF e)) (.int .i64 (erF e)) = e := by
  unfold stOf isB shF erF
  by_cases h : e = -1
  · simp [h]
  · simp [h, intOf]
theorem Own.prt_e {w0 w : World} {ps : List Piece} {g rg n : Nat} {s : ByteArray} {e : Int} (H : Own w0 w (Prt g rg s n e :: ps)) : stOf ((w.cell? ⟨g, 1, none⟩).getD undef) ((w.cell? ⟨g, 2, none⟩).getD undef) = e := by
  have c := H.prt.cells
  rw [c, c]
  exact stOf_se e
/-- What a round leaves is less. -/
def lmeasS (N : Nat) (u sh er : Value) : Nat := if stOf sh er = 0 then N + 1 - sliceLen u else 0
theorem lmeasS_own {w0 w : World} {ps : List Piece} {g rg n N M c : Nat} {a : Option Addr} {s : ByteArray} {e : Int} (H : Own w0 w (Prt g rg s n e :: ps)) : lmeasS N (.slice a M c) ((w.cell? ⟨g, 1, none⟩).getD undef) ((w.cell? ⟨g, 2, none⟩).getD undef) = if e = 0 then N + 1 - M else 0 := by
  unfold lmeasS
  rw [H.prt_e]
  rfl
theorem lstS_any {bs : List Bool} {G : Got (List Int)} {T : List Int} {N : Nat} {l l' : List Int} {n n' : Nat} {e : Int} (h : LStS bs G T N l n e) (he : e ≠ 0) : LStS bs G T N l' n' e := ⟨fun h0 => absurd h0 he, h.2⟩
theorem lstS_againM {s : ByteArray} {G : Got (List Int)} {T l : List Int} {N n1 j b V : Nat} {x : Int} (hj : j ≤ 16) (hn : n1 ≤ 8 * s.size) (hV : tkV s n1 j = V)
    (hG : G = (takeG (textBits s) j n1).bind fun v n2 => if N < l.length + (b + v.toNat) then .bad 2 else lengthsG (textBits s) T N (l ++ List.replicate (b + v.toNat) x) n2) :
    LStS (textBits s) G T N (agM N l (b + V) x (ptE s n1 j 0)) (tkN s n1 j) (agE N l (b + V) (ptE s n1 j 0)) := by
  have h := lstS_again hj hn hV hG
  by_cases he : ptE s n1 j 0 = 0
  · rw [he] at h ⊢
    rw [agM_zero]
    exact h
  · rw [agM_ne he]
    exact lstS_any h (by rw [agE_ne he]; exact he)
theorem agM_less {N k : Nat} {l : List Int} {x e : Int} (hk : 1 ≤ k) (hl : l.length < N) : (if agE N l k e = 0 then N + 1 - (agM N l k x e).length else 0) < N + 1 - l.length := by
  by_cases he : e = 0
  · subst he
    rw [agM_zero]
    exact agL_less hk hl
  · rw [agE_ne he, if_neg he]
    omega
/-- What lengths leaves. -/
def LensPost (w0 : World) (ps : List Piece) (g rg t : Nat) (s : ByteArray) (T : List Int) (N : Nat) (G : Got (List Int)) (r : Value) (w' : World) : Prop :=
  ∃ l n' e', n' ≤ 8 * s.size ∧ l.length ≤ N ∧ (e' = 0 → l.length = N) ∧ GotS G l n' e' ∧ Own w0 w' (slc 3 1 r l.length (nums l) :: Prt g rg s n' e' :: Tbl t T :: ps)

set_option maxRecDepth 100000 in
set_option maxHeartbeats 3200000 in
theorem ptlengths_any {w0 w : World} {ps : List Piece} {g rg t n : Nat} {s : ByteArray} {T : List Int} (N : Nat) (hT : TabOk T) (hN : N ≤ 1000) (hs : s.size ≤ 1000000) (hn : n ≤ 8 * s.size) (H : Own w0 w (Prt g rg s n 0 :: Tbl t T :: ps)) :
    Calls Try.prog 49 #[.pointer (some ⟨g, 0, none⟩), .pointer (some ⟨t, 0, none⟩), .int .i64 N] w (Ret (LensPost w0 ps g rg t s T N (lengthsG (textBits s) T N [] n))) := by
  obtain ⟨G, hG⟩ : ∃ G, Hid (lengthsG (textBits s) T N [] n = G) := ⟨_, rfl⟩
  have hst : Hid (LStS (textBits s) G T N [] n 0) := Lib.hid (by rw [← hG.out]; exact lstS_start)
  rw [hG.out]
  replace H : Own w0 w (slc 3 1 (.slice none 0 0) 0 (nums []) :: Prt g rg s n 0 :: Tbl t T :: ps) := H.nil 3 1
  go_enter Try.func49, Try.ntmps49
  go_wp2_with fail
  go_loopw [7, 8] (fun v7 _ wx => ∃ (l : List Int) (n1 : Nat) (e : Int), l.length ≤ N ∧ n1 ≤ 8 * s.size ∧ Hid (LStS (textBits s) G T N l n1 e) ∧ Own w0 wx (slc 3 1 v7 l.length (nums l) :: Prt g rg s n1 e :: Tbl t T :: ps)) (fun v7 _ wx => lmeasS N v7 ((wx.cell? ⟨g, 1, none⟩).getD undef) ((wx.cell? ⟨g, 2, none⟩).getD undef))
  case atStart => exact ⟨[], n, 0, by simp, hn, hst, H⟩
  case round =>
    clear H hst hG
    obtain ⟨l, n1, e, hl, hn1, hst, H⟩ := hrel
    obtain ⟨a, c, rfl, h1, h2⟩ := H.rd.shape
    have hm0 := Lib.hid (lmeasS_own (N := N) (M := l.length) (c := c) (a := a) (H.front 1 rfl))
    obtain ⟨M, hM⟩ : ∃ M, Hid (l.length = M) := ⟨_, rfl⟩
    rw [hM.out] at H hl h1 hm0 ⊢
    have HK := Lib.hid (ptok_any (H.front 1 rfl))
    by_cases hx : e ≠ 0 ∨ N ≤ M
    · have hend := Lib.hid (lstS_end hst.out (hx.imp id fun h => by rw [hM.out]; exact h))
      have HR : Own w0 wr (slc 3 1 (.slice a M c) l.length (nums l) :: Prt g rg s n1 e :: Tbl t T :: ps) := by rw [hM.out]; exact H
      by_cases hlt : M < N
      · have he : e ≠ 0 := by omega
        rw [decide_eq_false he] at HK
        have hlt2 : (M : Int) < N := by omega
        have hfin : Hid (LensPost w0 ps g rg t s T N G (.slice a M c) wr) := Lib.hid ⟨l, n1, e, hn1, by rw [hM.out]; omega, fun h => absurd h he, hend.out, HR⟩
        clear hx hst hm0 he hend HR
        go_wp2_with fail
        refine HK.out.mono ?_
        rintro e1 w1 ⟨rfl, rfl⟩
        go_wp2
        go_ret
        exact ⟨_, rfl, hfin.out⟩
      · have hlt2 : ¬ (M : Int) < N := by omega
        have hfin : Hid (LensPost w0 ps g rg t s T N G (.slice a M c) wr) := Lib.hid ⟨l, n1, e, hn1, by rw [hM.out]; omega, fun h => by rw [hM.out]; omega, hend.out, HR⟩
        clear hx hst hm0 hend HR HK
        go_wp2
        go_ret
        exact ⟨_, rfl, hfin.out⟩
    · obtain ⟨he, hlt⟩ : e = 0 ∧ M < N := by omega
      subst he
      clear hx
      rw [decide_eq_true rfl] at HK
      replace hm0 := Lib.hid (hm0.out.trans (if_pos rfl))
      have hlt2 : (M : Int) < N := by omega
      have hlN : Hid (l.length < N) := Lib.hid (by rw [hM.out]; exact hlt)
      have HS := Lib.hid (ptsym_any (g := g) (t := t) hT hs hn1 ((H.front 2 rfl).front 2 rfl))
      go_wp2_with fail
      refine HK.out.mono ?_
      rintro e1 w1 ⟨rfl, rfl⟩
      go_wp2_with fail
      refine HS.out.mono ?_
      rintro e0 w1 ⟨_, rfl, v, n2, e1, rfl, hv0, hv1, hn2, -, hg, H1⟩
      have hpl := Lib.hid (lstS_sym hst.out hlN.out (hg rfl))
      clear HS H HK hg hst
      have H : Own w0 w1 (slc 3 1 (.slice a M c) M (nums l) :: Prt g rg s n2 e1 :: Tbl t T :: ps) := H1.front 2 rfl
      clear H1
      have HK := Lib.hid (ptok_any (H.front 1 rfl))
      by_cases he1 : e1 = 0
      case neg =>
        have hst := Lib.hid (hpl.out.1 he1)
        rw [decide_eq_false he1] at HK
        have hm2 := lmeasS_own (N := N) (M := M) (c := c) (a := a) (H.front 1 rfl)
        rw [if_neg he1] at hm2
        replace hm2 := Lib.hid hm2
        clear hpl he1
        go_wp2_with fail
        refine HK.out.mono ?_
        rintro e0 w2 ⟨rfl, rfl⟩
        go_wp2_with fail
        go_roundw
        case rel => exact ⟨l, n2, e1, by rw [hM.out]; omega, hn2, hst, by rw [hM.out]; exact H⟩
        case measure => rw [hm0.out, hm2.out]; omega
      subst he1
      rw [decide_eq_true rfl] at HK
      have hpl2 := Lib.hid (hpl.out.2 rfl)
      clear hpl
      by_cases hv : v < 16
      · have hst := Lib.hid (hpl2.out.1 hv)
        clear hpl2
        go_wp2_with fail
        refine HK.out.mono ?_
        rintro e0 w2 ⟨rfl, rfl⟩
        clear HK
        go_wp2_with (at_builtin; refine wpList_append_one rfl _ _ rfl Try.underlying30 intInfo rfl (by decide) rfl H rfl rfl rfl (by simp [Value.oneCell']) (by omega) (by omega) ?_; clear H; intro v' w' H; obtain ⟨a', c', rfl, h1', h2'⟩ := H.rd.shape)
        have hlen : M + 1 = (l ++ [v]).length := by rw [List.length_append, hM.out]; rfl
        have H4 : Own w0 w' (slc 3 1 (.slice a' (M + 1) c') (l ++ [v]).length (nums (l ++ [v])) :: Prt g rg s n2 0 :: Tbl t T :: ps) := by rw [← hlen, ← nums_append]; exact H
        have hm2 := lmeasS_own (N := N) (M := M + 1) (c := c') (a := a') (H4.front 1 rfl)
        rw [if_pos rfl] at hm2
        replace hm2 := Lib.hid hm2
        clear H
        try simp only [Act.put, List.setIfInBounds_toArray, List.set_cons_zero, List.set_cons_succ]
        go_roundw
        case rel => exact ⟨l ++ [v], n2, 0, by omega, hn2, hst, H4⟩
        case measure => rw [hm0.out, hm2.out]; omega
      have HF := Lib.hid (ptfail_any (H.front 1 rfl))
      rw [if_pos rfl] at HF
      have HT0 : ∀ (j : Nat) (wz : World) (pz : List Piece), j ≤ 16 → Own w0 wz (Prt g rg s n2 0 :: pz) → _ := fun j wz pz hj h => pttake_any j hj h hs hn2
      have HT1 := Lib.hid HT0
      clear HT0
      have htk : ∀ j : Nat, j ≤ 7 → ∃ V : Nat, Hid (tkV s n2 (j : Int) = V) ∧ V < 128 := fun j hj => by
        have hV := (tk_got (s := s) (n := n2) (k := j) (by omega) hn2).2
        refine ⟨(tkV s n2 (j : Int)).toNat, Lib.hid (by omega), ?_⟩
        exact tk_small hj (show tkV s n2 (j : Int) = _ by omega)
      replace htk := Lib.hid htk
      have hnle : ∀ j : Nat, tkN s n2 (j : Int) ≤ 8 * s.size := fun j => tkN_le hn2
      replace hnle := Lib.hid hnle
      by_cases hv1 : v = 16
      case neg =>
        by_cases hv2 : v = 17
        · subst hv2
          have hG := hpl2.out.2.2.2.1 rfl
          clear hpl2 HF
          obtain ⟨V, hv, hV2⟩ := htk.out 3 (by omega)
          have hst := Lib.hid (lstS_againM (by omega) hn2 hv.out hG)
          have hn3 := hnle.out 3
          clear hG htk hnle
          have HT := Lib.hid (HT1.out 3 _ _ (by omega) (H.front 1 rfl))
          rw [ptV_zero, ptN_zero] at HT
          obtain ⟨n3, hn3e⟩ : ∃ n3, Hid (tkN s n2 ((3 : Nat) : Int) = n3) := ⟨_, rfl⟩
          obtain ⟨E, hE⟩ : ∃ E, Hid (ptE s n2 ((3 : Nat) : Int) 0 = E) := ⟨_, rfl⟩
          rw [hv.out, hn3e.out, hE.out] at HT
          rw [hn3e.out, hE.out] at hst
          rw [hn3e.out] at hn3
          clear hE hn3e hv HT1
          have hw : IntKind.i64.wrap (3 + (V : Int)) = 3 + (V : Int) := IntWalk.i64_in _ ⟨by omega, by omega⟩
          go_wp2_with fail
          refine HK.out.mono ?_
          rintro e0 w2 ⟨rfl, rfl⟩
          clear HK
          go_wp2_with fail
          refine HT.out.mono ?_
          rintro e2 w3 ⟨_, rfl, rfl, H1⟩
          have H2 : Own w0 w3 (slc 3 1 (.slice a M c) l.length (nums l) :: Prt g rg s n3 E :: Tbl t T :: ps) := by rw [hM.out]; exact H1.front 1 rfl
          have HA := Lib.hid (ptagain_any 0 (3 + V) N (by omega) hN (by rw [hM.out]; omega) H2)
          rw [show ((3 + V : Nat) : Int) = 3 + (V : Int) from by omega] at HA
          clear HT H1 H2 H
          go_wp2_with fail
          refine HA.out.mono ?_
          rintro e3 w4 ⟨_, rfl, H3⟩
          clear HA
          obtain ⟨a', c', rfl, -⟩ := H3.rd.shape
          have hm2 := Lib.hid (lmeasS_own (N := N) (M := (agM N l (3 + V) 0 E).length) (c := c') (a := a') (H3.front 1 rfl))
          go_wp2_with fail
          go_roundw
          case rel => exact ⟨_, n3, _, agM_len (by rw [hM.out]; omega), hn3, hst, H3⟩
          case measure => rw [hm0.out, hm2.out]; have := agM_less (N := N) (k := 3 + V) (l := l) (x := 0) (e := E) (by omega) (by rw [hM.out]; exact hlt); rw [hM.out] at this; exact this
        · have hG := hpl2.out.2.2.2.2 (by omega)
          have hvb1 : (v == 16) = false := by simp [hv1]
          have hvb2 : (v == 17) = false := by simp [hv2]
          clear hpl2 hv1 hv2 HF
          obtain ⟨V, hv, hV2⟩ := htk.out 7 (by omega)
          have hst := Lib.hid (lstS_againM (by omega) hn2 hv.out hG)
          have hn3 := hnle.out 7
          clear hG htk hnle
          have HT := Lib.hid (HT1.out 7 _ _ (by omega) (H.front 1 rfl))
          rw [ptV_zero, ptN_zero] at HT
          obtain ⟨n3, hn3e⟩ : ∃ n3, Hid (tkN s n2 ((7 : Nat) : Int) = n3) := ⟨_, rfl⟩
          obtain ⟨E, hE⟩ : ∃ E, Hid (ptE s n2 ((7 : Nat) : Int) 0 = E) := ⟨_, rfl⟩
          rw [hv.out, hn3e.out, hE.out] at HT
          rw [hn3e.out, hE.out] at hst
          rw [hn3e.out] at hn3
          clear hE hn3e hv HT1
          have hw : IntKind.i64.wrap (11 + (V : Int)) = 11 + (V : Int) := IntWalk.i64_in _ ⟨by omega, by omega⟩
          go_wp2_with fail
          refine HK.out.mono ?_
          rintro e0 w2 ⟨rfl, rfl⟩
          clear HK
          go_wp2_with fail
          refine HT.out.mono ?_
          rintro e2 w3 ⟨_, rfl, rfl, H1⟩
          have H2 : Own w0 w3 (slc 3 1 (.slice a M c) l.length (nums l) :: Prt g rg s n3 E :: Tbl t T :: ps) := by rw [hM.out]; exact H1.front 1 rfl
          have HA := Lib.hid (ptagain_any 0 (11 + V) N (by omega) hN (by rw [hM.out]; omega) H2)
          rw [show ((11 + V : Nat) : Int) = 11 + (V : Int) from by omega] at HA
          clear HT H1 H2 H
          go_wp2_with fail
          refine HA.out.mono ?_
          rintro e3 w4 ⟨_, rfl, H3⟩
          clear HA
          obtain ⟨a', c', rfl, -⟩ := H3.rd.shape
          have hm2 := Lib.hid (lmeasS_own (N := N) (M := (agM N l (11 + V) 0 E).length) (c := c') (a := a') (H3.front 1 rfl))
          go_wp2_with fail
          go_roundw
          case rel => exact ⟨_, n3, _, agM_len (by rw [hM.out]; omega), hn3, hst, H3⟩
          case measure => rw [hm0.out, hm2.out]; have := agM_less (N := N) (k := 11 + V) (l := l) (x := 0) (e := E) (by omega) (by rw [hM.out]; exact hlt); rw [hM.out] at this; exact this
      subst hv1
      clear hv
      by_cases hM0 : M = 0
      · subst hM0
        have hst : Hid (LStS (textBits s) G T N l n2 2) := Lib.hid ⟨fun h => absurd h (by decide), fun _ => hpl2.out.2.1 rfl hM.out⟩
        clear hpl2 HT1 htk hnle
        go_wp2_with fail
        refine HK.out.mono ?_
        rintro e0 w2 ⟨rfl, rfl⟩
        clear HK
        go_wp2_with fail
        refine HF.out.mono ?_
        rintro e2 w3 ⟨_, rfl, H1⟩
        have H2 : Own w0 w3 (slc 3 1 (.slice a 0 c) 0 (nums l) :: Prt g rg s n2 2 :: Tbl t T :: ps) := H1.front 1 rfl
        have hm2 := lmeasS_own (N := N) (M := 0) (c := c) (a := a) H1
        rw [if_neg (by decide)] at hm2
        replace hm2 := Lib.hid hm2
        clear HF H1 H
        go_wp2_with fail
        go_roundw
        case rel => exact ⟨l, n2, 2, by rw [hM.out]; omega, hn2, hst, by rw [hM.out]; exact H2⟩
        case measure => rw [hm0.out, hm2.out]; omega
      obtain ⟨K, rfl⟩ : ∃ K, M = K + 1 := ⟨M - 1, by omega⟩
      have hG := hpl2.out.2.2.1 rfl (by rw [hM.out]; omega)
      clear hpl2 hM0 HF
      obtain ⟨x, hx⟩ : ∃ x, Hid (l.getD (l.length - 1) 0 = x) := ⟨_, rfl⟩
      rw [hx.out] at hG
      obtain ⟨V, hv, hV2⟩ := htk.out 2 (by omega)
      have hst := Lib.hid (lstS_againM (by omega) hn2 hv.out hG)
      have hn3 := hnle.out 2
      clear hG htk hnle
      have HT0 := fun wz pz h => HT1.out 2 wz pz (by omega) h
      rw [ptV_zero, ptN_zero] at HT0
      have HT := Lib.hid HT0
      clear HT0
      obtain ⟨n3, hn3e⟩ : ∃ n3, Hid (tkN s n2 ((2 : Nat) : Int) = n3) := ⟨_, rfl⟩
      obtain ⟨E, hE⟩ : ∃ E, Hid (ptE s n2 ((2 : Nat) : Int) 0 = E) := ⟨_, rfl⟩
      rw [hv.out, hn3e.out, hE.out] at HT
      rw [hn3e.out, hE.out] at hst
      rw [hn3e.out] at hn3
      clear hE hn3e hv HT1
      have hw : IntKind.i64.wrap (3 + (V : Int)) = 3 + (V : Int) := IntWalk.i64_in _ ⟨by omega, by omega⟩
      have hb1 : ((K : Int) + 1 == 0) = false := by simp; omega
      have hK1 : (K : Int) < (K : Int) + 1 := by omega
      have hwK : IntKind.i64.wrap (K : Int) = K := IntWalk.i64_in _ ⟨by omega, by omega⟩
      have hrow : Hid ((nums l)[K]? = some (.int .i64 x)) := Lib.hid (by
        rw [← hx.out, hM.out]
        unfold nums
        rw [List.getElem?_map, List.getElem?_eq_getElem (by rw [hM.out]; omega)]
        simp [List.getD, List.getElem?_eq_getElem (show K < l.length by rw [hM.out]; omega)])
      obtain ⟨bK, cK, hgK, hcK1, hcK2, -, -, -, -⟩ := H.at (by unfold nums; rw [List.length_map, hM.out]; omega)
      cases hgK
      have hcell : ∀ (w1 : World) (ps : List Piece), Own w0 w1 (slc 3 1 (.slice (some ⟨bK, 0, none⟩) (K + 1) c) (K + 1) (nums l) :: ps) → w1.cell? ⟨bK, K, none⟩ = some (.int .i64 x) := fun w1 ps h => by
        have h3 := h.rd.cell hrow.out
        simpa using h3
      replace hcell := Lib.hid hcell
      have c0 := hcell.out _ _ H
      go_wp2_with fail
      refine HK.out.mono ?_
      rintro e0 w2 ⟨rfl, rfl⟩
      clear HK c0
      go_upto_region 11 with (fail)
      have HD0 := H.drew
      clear H
      refine Trk.wp_region_new (fun σ w1 => Own w0 w1 (slc 3 1 (.slice (some ⟨bK, 0, none⟩) (K + 1) c) (K + 1) (nums l) :: (if (σ 9).isSome then Prt g rg s n3 E else Prt g rg s n2 0) :: Tbl t T :: ps)) 12 [] [9] (by intro k hk; simp at hk; subst hk; exact ⟨by omega, by simp, fun o ho => by simp at ho; subst ho; rfl⟩) (by kernel_rfl) (by kernel_rfl) HD0 ?_
      simp only [List.take_succ_cons, List.take_zero, List.drop_succ_cons, List.drop_zero]
      repeat
        first
        | (refine Trk.calm_value (v := ?_) (by decide) (by decide) rfl (fun σ w1 hS => ?_) ?_
           rotate_left
           · have c4 := hcell.out _ _ hS
             first | (go_simp; rfl) | rfl
           simp only [Act.put, List.setIfInBounds_toArray, List.set_cons_zero, List.set_cons_succ])
        | (refine Trk.calm_skip (by decide) rfl ?_
           simp only [Act.put, List.setIfInBounds_toArray, List.set_cons_zero, List.set_cons_succ])
      refine kcalm_call (v := .int .i64 V) (by decide) (by decide) rfl (fun w1 => (by go_simp; first | exact ⟨rfl, rfl⟩ | rfl)) (fun σ w1 hS hn => ?_) ?_
      · rw [hn] at hS
        have hS2 : Own w0 w1 (slc 3 1 (.slice (some ⟨bK, 0, none⟩) (K + 1) c) (K + 1) (nums l) :: Prt g rg s n2 0 :: Tbl t T :: ps) := hS
        refine (HT.out _ _ (hS2.front 1 rfl)).mono ?_
        rintro e5 w5 ⟨_, rfl, rfl, h5⟩
        refine ⟨rfl, ?_⟩
        have h6 := h5.front 1 rfl
        simpa [Sig.upd] using h6
      simp only [Act.put, List.setIfInBounds_toArray, List.set_cons_zero, List.set_cons_succ]
      repeat
        first
        | (refine Trk.calm_value (v := ?_) (by decide) (by decide) rfl (fun σ w1 hS => ?_) ?_
           rotate_left
           · have c4 := hcell.out _ _ hS
             first | (go_simp; rfl) | rfl
           simp only [Act.put, List.setIfInBounds_toArray, List.set_cons_zero, List.set_cons_succ])
        | (refine Trk.calm_skip (by decide) rfl ?_
           simp only [Act.put, List.setIfInBounds_toArray, List.set_cons_zero, List.set_cons_succ])
      refine Trk.calm_nil ?_
      intro σ wd _ hσ HD
      have h8 := hσ 9 (by decide)
      rw [if_pos h8] at HD
      clear hσ h8 HD0 HT hcell
      simp only [putNew, List.foldl_nil]
      have H2 : Own w0 wd (slc 3 1 (.slice (some ⟨bK, 0, none⟩) (K + 1) c) l.length (nums l) :: Prt g rg s n3 E :: Tbl t T :: ps) := by rw [hM.out]; exact HD
      have HA := Lib.hid (ptagain_any x (3 + V) N (by omega) hN (by rw [hM.out]; omega) H2)
      rw [show ((3 + V : Nat) : Int) = 3 + (V : Int) from by omega] at HA
      clear H2 HD
      go_wp2_with fail
      refine HA.out.mono ?_
      rintro e3 w3 ⟨_, rfl, H3⟩
      clear HA
      obtain ⟨a', c', rfl, -⟩ := H3.rd.shape
      have hm2 := Lib.hid (lmeasS_own (N := N) (M := (agM N l (3 + V) x E).length) (c := c') (a := a') (H3.front 1 rfl))
      go_wp2_with fail
      go_roundw
      case rel => exact ⟨_, n3, _, agM_len (by rw [hM.out]; omega), hn3, hst, H3⟩
      case measure => rw [hm0.out, hm2.out]; have := agM_less (N := N) (k := 3 + V) (l := l) (x := x) (e := E) (by omega) (by rw [hM.out]; exact hlt); rw [hM.out] at this; exact this
end Go.Proofs.Ytljejkdkjnbmhaa
/- An array of ints by value, read at an index. -/
namespace Go.Proofs.Ytljejkdkjnbmhaa
open Go.RowKit

/-- 'a[i]' of an array of ints by value. -/
theorem run_index_arr {P : Program} (t e : TypeId) (n : Nat) (cs : Array Value) (i : Nat) (v : Int) (w : World) (h : P.underlying t = some (.array n e)) (hsz : ∀ w, (sizeOf e).run P w = .ok 1 w) (hag : ∀ w, (isAgg e).run P w = .ok false w) (hi : i < n) (hv : cs[i]? = some (.int .i64 v)) :
    (Instr.index t (.agg cs) (.int .i64 i)).run P w = .ok (.int .i64 v) w := by
  have hn : (0 : Int) ≤ (i : Int) ∧ (i : Int) < (n : Int) := by omega
  simp [Instr.index, run_underlying h, asIntOf, hn, go_sem]
  rw [if_pos hi]
  simp [hsz, hag, hv, Result.andThen]
theorem int_one (w : World) : (sizeOf 3).run Try.prog w = .ok 1 w ∧ (isAgg 3).run Try.prog w = .ok false w := by
  constructor <;> go_simp
end Go.Proofs.Ytljejkdkjnbmhaa
/- stream: the walk of codes. -/
namespace Go.Proofs.Ytljejkdkjnbmhaa
open Go.RowKit

/-- What dynamic leaves. -/
def DynPost (w0 : World) (ps : List Piece) (g rg : Nat) (s : ByteArray) (G : Got (List Int × List Int)) (r : Value) (w' : World) : Prop :=
  ∃ ao bo T n' e', r = .tuple #[.pointer ao, .pointer bo] ∧ n' ≤ 8 * s.size ∧ GotS G T n' e' ∧
    (e' = 0 → TabOk T.1 ∧ TabOk T.2 ∧ ∃ a b, ao = some ⟨a, 0, none⟩ ∧ bo = some ⟨b, 0, none⟩ ∧ Own w0 w' (Prt g rg s n' 0 :: Tbl a T.1 :: Tbl b T.2 :: ps)) ∧
    (e' ≠ 0 → Own w0 w' (Prt g rg s n' e' :: ps))

theorem Own.tblo_none {w0 w : World} {ps : List Piece} {v : Value} {l : List Int} (H : Own w0 w (TblO v l :: ps)) (h : terrF l ≠ 0) : v = .pointer none ∧ Own w0 w ps := by
  unfold TblO at H
  rw [if_neg h] at H
  exact H.fact
/-- A table that may be made already. -/
def optT (l : List Int) : Option Value → List Piece
  | none => []
  | some v => [TblO v l]
/-- The fault behind two tables, of which each may be made already. -/
def eF (l1 l2 : List Int) (e : Int) (a b : Option Value) : Int := if (a.isSome = true ∧ terrF l1 ≠ 0) ∨ (b.isSome = true ∧ terrF l2 ≠ 0) then (if e = 0 then 2 else e) else e
theorem eF_left {l1 l2 : List Int} {e : Int} {a b : Option Value} {v : Value} : eT l1 (eF l1 l2 e a b) = eF l1 l2 e (some v) b := by
  unfold eT eF
  simp only [Option.isSome_some, true_and]
  by_cases h1 : terrF l1 = 0
  · simp [h1]
  · simp only [h1, if_false, ne_eq, not_false_eq_true, and_true, true_or, if_true]
    repeat' split
    all_goals omega
theorem eF_right {l1 l2 : List Int} {e : Int} {a b : Option Value} {v : Value} : eT l2 (eF l1 l2 e a b) = eF l1 l2 e a (some v) := by
  unfold eT eF
  simp only [Option.isSome_some, true_and]
  by_cases h1 : terrF l2 = 0
  · simp [h1]
  · simp only [h1, if_false, ne_eq, not_false_eq_true, and_true, or_true, if_true]
    repeat' split
    all_goals omega
theorem Own.opt_left {w0 w : World} {A B : Piece} {l1 l2 : List Int} {a b : Option Value} {r : Value} {ps : List Piece} (H : Own w0 w (TblO r l1 :: A :: B :: (optT l1 a ++ (optT l2 b ++ ps)))) : Own w0 w (A :: B :: (optT l1 (some r) ++ (optT l2 b ++ ps))) := by
  cases a with
  | none => exact (H.front 2 rfl).front 2 rfl
  | some v => exact (((H.front 3 rfl).drop.front 2 rfl).front 2 rfl)
theorem Own.opt_right {w0 w : World} {A B : Piece} {l1 l2 : List Int} {a b : Option Value} {r : Value} {ps : List Piece} (H : Own w0 w (TblO r l2 :: A :: B :: (optT l1 a ++ (optT l2 b ++ ps)))) : Own w0 w (A :: B :: (optT l1 a ++ (optT l2 (some r) ++ ps))) := by
  cases a with
  | none =>
    cases b with
    | none => exact (H.front 2 rfl).front 2 rfl
    | some v => exact (((H.front 3 rfl).drop.front 2 rfl).front 2 rfl)
  | some u =>
    cases b with
    | none => exact ((H.front 3 rfl).front 3 rfl).front 3 rfl
    | some v => exact ((((H.front 4 rfl).drop.front 3 rfl).front 3 rfl).front 3 rfl)

theorem ptake_any {w0 w : World} {ps : List Piece} {g rg n : Nat} {s : ByteArray} {e : Int} (k : Nat) (hk : k ≤ 16) (H : Own w0 w (Prt g rg s n e :: ps)) (hs : s.size ≤ 1000000) (hn : n ≤ 8 * s.size) :
    Calls Try.prog 14 #[.pointer (some ⟨g, 0, none⟩), .int .i64 k] w (Ret fun r w' => ∃ v n' e', r = .int .i64 v ∧ 0 ≤ v ∧ v < 65536 ∧ n' ≤ 8 * s.size ∧ (e ≠ 0 → e' = e) ∧ (e' ≠ 0 → v = 0) ∧ (e = 0 → GotS (takeG (textBits s) k n) v n' e') ∧ Own w0 w' (Prt g rg s n' e' :: ps)) := by
  refine (pttake_any k hk H hs hn).mono ?_
  rintro e1 w1 ⟨_, rfl, rfl, H1⟩
  have hb := ptV_bd (s := s) (n := n) (k := k) (e := e) hk hn
  refine ⟨_, rfl, _, _, _, rfl, hb.1, hb.2, ptN_le hn, fun h => ptE_ne h, fun h => ?_, fun h => pt_got (by omega) hn h, H1⟩
  by_cases he : e = 0
  · subst he
    rw [ptV_zero]
    unfold ptE at h
    unfold tkV
    by_cases ho : tkOk s n (k : Int)
    · rw [if_pos ho] at h; exact absurd rfl h
    · rw [if_neg ho]
  · exact ptV_ne he
theorem dstS_full {bs : List Bool} {G : Got (List Int × List Int)} {a b : Int} {c4 n : Nat} {xs X : List Int} (h : DStS bs G a b c4 c4 xs X n 0) : X = unordF xs ∧ G = codesC bs a b xs n := by
  obtain ⟨h1, h2, h3⟩ := h.1 rfl
  rw [Nat.sub_self, lensG, Got.bind_ok] at h3
  exact ⟨h2, h3⟩
set_option maxRecDepth 100000 in
set_option maxHeartbeats 1600000 in
theorem ptlengths_bad {w0 w : World} {ps : List Piece} {g rg n : Nat} {s : ByteArray} {e : Int} (N : Nat) (ao : Option Addr) (he : e ≠ 0) (hN : 1 ≤ N) (H : Own w0 w (Prt g rg s n e :: ps)) :
    Calls Try.prog 49 #[.pointer (some ⟨g, 0, none⟩), .pointer ao, .int .i64 N] w (Ret fun r w' => r = .slice none 0 0 ∧ Own w0 w' (Prt g rg s n e :: ps)) := by
  have HK := Lib.hid (ptok_any H)
  rw [decide_eq_false he] at HK
  have hN1 : (0 : Int) < N := by omega
  have hN0 : 0 < N := by omega
  clear he
  go_enter Try.func49, Try.ntmps49
  go_wp2_with fail
  refine wp_loop_rounds 1 ?_
  rw [rounds_succ]
  go_wp2_with fail
  refine HK.out.mono ?_
  rintro e1 w1 ⟨rfl, rfl⟩
  go_wp2
  go_ret
  exact ⟨_, rfl, rfl, H⟩
set_option maxRecDepth 100000 in
set_option maxHeartbeats 3200000 in
theorem ptcodes_any {w0 w : World} {ps : List Piece} {g rg n : Nat} {s : ByteArray} (hs : s.size ≤ 1000000) (hn : n ≤ 8 * s.size) (H : Own w0 w (Prt g rg s n 0 :: ps)) :
    Calls Try.prog 31 #[.pointer (some ⟨g, 0, none⟩)] w (Ret (DynPost w0 ps g rg s (codesG (textBits s) n))) := by
  obtain ⟨B, hB⟩ : ∃ B, Hid (textBits s = B) := ⟨_, rfl⟩
  obtain ⟨G, hG⟩ : ∃ G, Hid (codesG B n = G) := ⟨_, rfl⟩
  rw [hB.out, hG.out]
  go_enter Try.func31, Try.ntmps31
  have HT := Lib.hid (ptake_any 5 (by omega) H hs hn)
  go_wp2_with fail
  refine HT.out.mono ?_
  rintro e w1 ⟨_, rfl, v1, n1, e1, rfl, hv1, hv1', hn1, -, -, hg1, H1⟩
  replace hg1 := Lib.hid (hg1 trivial)
  clear HT H
  have HT := Lib.hid (ptake_any 5 (by omega) H1 hs hn1)
  go_wp2_with fail
  refine HT.out.mono ?_
  rintro e w2 ⟨_, rfl, v2, n2, e2, rfl, hv2, hv2', hn2, he2, -, hg2, H2⟩
  replace hg2 := Lib.hid hg2
  replace he2 := Lib.hid he2
  clear HT H1
  have HT := Lib.hid (ptake_any 4 (by omega) H2 hs hn2)
  go_wp2_with fail
  refine HT.out.mono ?_
  rintro e w3 ⟨_, rfl, v3, n3, e3, rfl, hv3, hv3', hn3, he3, hz3, hg3, H⟩
  have hst := Lib.hid (dstS_start hg1.out he2.out hg2.out he3 hg3)
  clear HT H2 hg1 hg2 he2 hg3 he3
  rw [hB.out, hG.out] at hst
  have hC : v3 < 16 := by
    by_cases h3 : e3 = 0
    · exact (hst.out.1 h3).2.2.2
    · rw [hz3 h3]; omega
  clear hz3
  obtain ⟨A, rfl⟩ : ∃ A : Nat, v1 = A := ⟨v1.toNat, by omega⟩
  obtain ⟨D, rfl⟩ : ∃ D : Nat, v2 = D := ⟨v2.toNat, by omega⟩
  obtain ⟨C, rfl⟩ : ∃ C : Nat, v3 = C := ⟨v3.toNat, by omega⟩
  have hw1 : IntKind.i64.wrap (257 + (A : Int)) = 257 + (A : Int) := IntWalk.i64_in _ ⟨by omega, by omega⟩
  have hw2 : IntKind.i64.wrap (1 + (D : Int)) = 1 + (D : Int) := IntWalk.i64_in _ ⟨by omega, by omega⟩
  have hw3 : IntKind.i64.wrap (4 + (C : Int)) = 4 + (C : Int) := IntWalk.i64_in _ ⟨by omega, by omega⟩
  go_upto_region 2 with (fail)
  go_cut [26] (fun s26 wx => wx = w3 ∧ s26 = .bool (decide (29 < A ∨ 29 < D)))
  case first =>
    by_cases h1 : 29 < A
    · have h1' : (286 : Int) < 257 + (A : Int) := by omega
      have hd : decide (29 < A ∨ 29 < D) = true := by simp [h1]
      go_wp2
      go_meet
      exact ⟨rfl, by rw [hd]⟩
    · have h1' : ¬ (286 : Int) < 257 + (A : Int) := by omega
      by_cases h2 : 29 < D
      · have h2' : (30 : Int) < 1 + (D : Int) := by omega
        have hd : decide (29 < A ∨ 29 < D) = true := by simp [h2]
        go_wp2
        go_meet
        exact ⟨rfl, by rw [hd]⟩
      · have h2' : ¬ (30 : Int) < 1 + (D : Int) := by omega
        have hd : decide (29 < A ∨ 29 < D) = false := by simp; omega
        go_wp2
        go_meet
        exact ⟨rfl, by rw [hd]⟩
  case rest =>
    obtain ⟨rfl, rfl⟩ := hcut
    replace hst : Hid ((e3 = 0 → A < 32 ∧ D < 32 ∧ C < 16) ∧ ((29 < A ∨ 29 < D) → ∀ (v : List Int × List Int) (m : Nat), GotS G v m (if e3 = 0 then 2 else e3)) ∧ (¬ (29 < A ∨ 29 < D) → DStS B G A D (4 + C) 0 [] (zerosF 19) n3 e3)) := Lib.hid (by
      have h := hst.out
      simp only [Int.toNat_natCast] at h
      refine ⟨fun h0 => by have := h.1 h0; omega, fun hx => h.2.1 (by omega), fun hx => h.2.2 (by omega)⟩)
    go_upto_if 26 with (fail)
    go_cut [] (fun wx => ∃ e4 : Int, Hid (e4 = 0 → A ≤ 29 ∧ D ≤ 29 ∧ C < 16) ∧ Hid (DStS B G A D (4 + C) 0 [] (zerosF 19) n3 e4) ∧ Own w0 wx (Prt g rg s n3 e4 :: ps))
    case first =>
      by_cases hx : 29 < A ∨ 29 < D
      · have hb : decide (29 < A ∨ 29 < D) = true := by simp [hx]
        have h2 := hst.out.2.1 hx
        rw [hb]
        clear hx hb
        have HH := Lib.hid (ptfail_any (g := g) (rg := rg) H)
        obtain ⟨e4, he4⟩ : ∃ e4, Hid ((if e3 = 0 then 2 else e3) = e4) := ⟨_, rfl⟩
        have hne : Hid (e4 ≠ 0) := Lib.hid (by rw [← he4.out]; split <;> omega)
        rw [he4.out] at HH h2
        replace h2 := Lib.hid h2
        go_wp2_with fail
        refine HH.out.mono ?_
        rintro e w4 ⟨_, rfl, H4⟩
        clear HH
        go_wp2
        go_meet
        exact ⟨e4, Lib.hid fun h => absurd h hne.out, Lib.hid ⟨fun h => absurd h hne.out, fun _ => h2.out⟩, H4⟩
      · have hb : decide (29 < A ∨ 29 < D) = false := by simp; omega
        have h2 := Lib.hid (hst.out.2.2 hx)
        have h3 : Hid (e3 = 0 → A ≤ 29 ∧ D ≤ 29 ∧ C < 16) := Lib.hid fun h0 => by have := hst.out.1 h0; omega
        rw [hb]
        clear hx hb
        go_wp2
        go_meet
        exact ⟨e3, h3, h2, H⟩
    case rest =>
    clear hst H
    obtain ⟨e4, hb4, hst, H⟩ := hcut
    have hC16 : C < 16 := by omega
    clear hv1 hv2 hv3 hw1 hw2 hw3 hv1' hv2' hC
    go_upto_region 5 with (refine wpList_store_agg (vs := nums (ordF.map Int.ofNat)) (cur' := (nums (ordF.map Int.ofNat)).toArray) rfl _ _ rfl rfl (H.alloc (.cells #[.int .i64 0, .int .i64 0, .int .i64 0, .int .i64 0, .int .i64 0, .int .i64 0, .int .i64 0, .int .i64 0, .int .i64 0, .int .i64 0, .int .i64 0, .int .i64 0, .int .i64 0, .int .i64 0, .int .i64 0, .int .i64 0, .int .i64 0, .int .i64 0, .int .i64 0] 89)) rfl (by kernel_rfl) (by simp [nums, ordF]) (by simp [nums, ordF, Value.oneCell']) rfl ?_; clear H; intro w5 H)
    generalize wc.heap.size = bO at *
    have hord : Hid (∀ j, j < 19 → (nums (ordF.map Int.ofNat)).toArray[j]? = some (.int .i64 ((ordN j : Nat) : Int)) ∧ ordN j < 19) := Lib.hid (fun j hj => by
      have := (show ∀ j : Fin 19, ordN j.1 < 19 ∧ (ordF.map Int.ofNat)[j.1]? = some ((ordN j.1 : Nat) : Int) by decide) ⟨j, hj⟩
      refine ⟨?_, this.1⟩
      rw [List.getElem?_toArray]
      exact nums_get this.2)
    generalize (nums (ordF.map Int.ofNat)).toArray = OA at *
    have hmk : ∀ w : World, (Instr.makeSlice 30 (.int .i64 19) (.int .i64 19)).run Try.prog w = .ok (.slice (some ⟨w.heap.size, 0, none⟩) 19 19) (w.alloc (.cells (madeCells #[.int .i64 0] 19) 3)) := run_make_row' _ _ _ 8 Try.underlying30 intInfo rfl .i64 .i64 19 (by omega) (by omega)
    go_upto_region 6 with (fail)
    have h9 := (H.alloc (.cells (madeCells #[.int .i64 0] 19) 3)).slc_mk (xs := nums (zerosF 19)) (n := 19) (size := 1) rfl (Nat.le_refl _) (by simp [maxLen]) (by simp [size_madeCells]) (by rw [toList_madeCells_one]; rfl)
    clear H hmk
    generalize w5.alloc _ = w9 at *
    generalize w5.heap.size = gl at *
    have hsl : ∀ w, (Instr.sliceAt 89 (.pointer (some ⟨bO, 0, none⟩)) none (some (.int .i64 (4 + (C : Int)))) none).run Try.prog w = .ok (.slice (some ⟨bO, 0, none⟩) (4 + C) 19) w := fun w => by
      have hl : Try.prog.arrayLen 89 = 19 := by kernel_rfl
      have h := run_sliceAt_array_h (P := Try.prog) w 89 ⟨bO, 0, none⟩ Try.underlying89 .i64 (4 + (C : Int)) (by omega) (by rw [hl]; omega)
      have he : Try.prog.elem 89 = 3 := by kernel_rfl
      rw [h, hl, he, (int_one w).1]
      simp only [Result.andThen_ok, slicedAt, Nat.zero_mul, Nat.sub_zero]
      rw [if_neg (by omega), show ((4 : Int) + (C : Int)).toNat = 4 + C by omega]
      rfl
    have hmin : ¬ 19 < 4 + (C : Int) := by omega
    have hmin2 : 4 + (C : Int) ≤ 19 := by omega
    go_wp2_with fail
    go_loopw [10, 35] (fun _ s35 wx => ∃ (k : Nat) (xs X : List Int) (n4 : Nat) (e : Int), s35 = .int .i64 k ∧ k ≤ 4 + C ∧ X.length = 19 ∧ n4 ≤ 8 * s.size ∧ Hid (e = 0 → A ≤ 29 ∧ D ≤ 29 ∧ C < 16) ∧ Hid (DStS B G A D (4 + C) k xs X n4 e) ∧ Own w0 wx (slc 3 1 (.slice (some ⟨gl, 0, none⟩) 19 19) 19 (nums X) :: blk bO (.cells OA 89) :: Prt g rg s n4 e :: ps)) (fun _ s35 _ => 4 + C - (intOf s35).toNat)
    case atStart => exact ⟨0, [], zerosF 19, n3, e4, by go_num, by omega, rfl, hn3, hb4, hst, h9⟩
    case round =>
      clear h9 hst hb4 hmin hmin2
      obtain ⟨k, xs, X, n4, e, rfl, hk, hX, hn4, hb4, hst, H⟩ := hrel
      replace hX := Lib.hid hX
      by_cases hkc : k < 4 + C
      · have hkcI : (k : Int) < 4 + (C : Int) := by omega
        have hk19 : k < 19 := by omega
        obtain ⟨hoa, ho19⟩ := hord.out k hk19
        have c0 : wr.cell? ⟨bO, k, none⟩ = some (.int .i64 ((ordN k : Nat) : Int)) := by rw [(H.front 1 rfl).cells]; exact hoa
        have HT := Lib.hid (ptake_any 3 (by omega) (H.front 2 rfl) hs hn4)
        obtain ⟨oj, hoj⟩ : ∃ oj, Hid (ordN k = oj) := ⟨_, rfl⟩
        rw [hoj.out] at c0 ho19
        have hojI : (oj : Int) < 19 := by omega
        clear hoa
        go_wp2_with fail
        refine HT.out.mono ?_
        rintro e0 w6 ⟨_, rfl, v, n5, e5, rfl, hv1, hv2, hn5, he5, -, hg, H1⟩
        have hst2 : Hid (∃ xs', DStS B G A D (4 + C) (k + 1) xs' (X.set oj v) n5 e5) := Lib.hid (by
          by_cases he : e = 0
          · subst he
            refine ⟨xs ++ [v], ?_⟩
            rw [← hoj.out]
            exact dstS_take hst.out hkc (by omega) (by have h := hg rfl; rw [hB.out] at h; exact h)
          · obtain rfl := he5 he
            exact ⟨xs, dstS_bad hst.out he⟩)
        have hb5 : Hid (e5 = 0 → A ≤ 29 ∧ D ≤ 29 ∧ C < 16) := Lib.hid fun h5 => by
          by_cases he : e = 0
          · exact hb4.out he
          · exact absurd ((he5 he).symm.trans h5) he
        clear HT H c0 hst hg he5 hb4
        have H : Own w0 w6 (slc 3 1 (.slice (some ⟨gl, 0, none⟩) 19 19) 19 (nums X) :: blk bO (.cells OA 89) :: Prt g rg s n5 e5 :: ps) := (H1.front 2 rfl).front 2 rfl |>.front 1 rfl |>.front 1 rfl
        clear H1
        go_wp2_with (refine wpList_store_slc rfl _ _ rfl rfl H (.int .i64 v) rfl (by kernel_rfl) ho19 rfl ?_; clear H; intro w7 H; rw [nums_set] at H)
        obtain ⟨xs', hst3⟩ := hst2.out
        replace hst3 := Lib.hid hst3
        go_roundw
        case rel => exact ⟨k + 1, xs', X.set oj v, n5, e5, by go_num, by omega, by rw [List.length_set]; exact hX.out, hn5, hb5, hst3, H⟩
        case measure => simp [intOf]; omega
      · obtain rfl : k = 4 + C := by omega
        clear hk hkc
        have hkI : ¬ 4 + (C : Int) < 4 + (C : Int) := by omega
        have HK := Lib.hid (ptok_any (H.front 2 rfl))
        by_cases he : e = 0
        case neg =>
          rw [decide_eq_false he] at HK
          have hbad := Lib.hid (hst.out.2 he)
          replace he := Lib.hid he
          clear hst hb4
          go_wp2_with fail
          refine HK.out.mono ?_
          rintro e1 w6 ⟨rfl, rfl⟩
          clear HK
          go_wp2_with fail
          go_ret2
          exact ⟨_, rfl, none, none, ([], []), n4, e, rfl, hn4, hbad.out _ _, fun h => absurd h he.out, fun _ => H.drop.drop⟩
        subst he
        rw [decide_eq_true rfl] at HK
        obtain ⟨hA29, hD29, -⟩ := hb4.out rfl
        obtain ⟨hXe, hGe⟩ := dstS_full hst.out
        replace hXe := Lib.hid hXe
        replace hGe := Lib.hid hGe
        clear hst hb4
        have HTB := Lib.hid (pttable_g H.rd (by omega) H.drop.drop)
        go_wp2_with fail
        refine HK.out.mono ?_
        rintro e1 w6 ⟨rfl, rfl⟩
        clear HK
        go_wp2_with fail
        refine HTB.out.mono ?_
        rintro e0 w6 ⟨pt, rfl, H1⟩
        clear HTB H
        have hwN : IntKind.i64.wrap (257 + (A : Int) + (1 + (D : Int))) = 257 + (A : Int) + (1 + (D : Int)) := IntWalk.i64_in _ ⟨by omega, by omega⟩
        by_cases ht : terrF X = 0
        case neg =>
          obtain ⟨rfl, H2⟩ := H1.tblo_none ht
          have hE : eT X 0 = 2 := by unfold eT; rw [if_neg ht, if_pos rfl]
          rw [hE] at H2
          have hbad := Lib.hid ((codesS_end (n' := 0) (l := []) (e' := 0) hGe.out).1 (by rw [← hXe.out]; exact ht))
          have HL := Lib.hid (ptlengths_bad (g := g) (rg := rg) (257 + A + (1 + D)) none (by decide) (by omega) H2)
          rw [show ((257 + A + (1 + D) : Nat) : Int) = 257 + (A : Int) + (1 + (D : Int)) by omega] at HL
          clear hE H1 H2 ht hGe
          go_wp2_with fail
          refine HL.out.mono ?_
          rintro e0 w7 ⟨_, rfl, rfl, H3⟩
          have HK := Lib.hid (ptok_any H3)
          rw [decide_eq_false (by decide)] at HK
          clear HL
          go_wp2_with fail
          refine HK.out.mono ?_
          rintro e1 w8 ⟨rfl, rfl⟩
          go_wp2_with fail
          go_ret2
          exact ⟨_, rfl, none, none, ([], []), n4, 2, rfl, hn4, hbad.out _ _, fun h => absurd h (by decide), fun _ => H3⟩
        obtain ⟨t, rfl, H2⟩ := H1.tblo ht
        have hE : eT X 0 = 0 := by unfold eT; rw [if_pos ht]
        rw [hE] at H2
        have HL := Lib.hid (ptlengths_any (g := g) (rg := rg) (257 + A + (1 + D)) (tab_ok ht) (by omega) hs hn4 H2.swap)
        rw [show ((257 + A + (1 + D) : Nat) : Int) = 257 + (A : Int) + (1 + (D : Int)) by omega, hB.out] at HL
        replace ht := Lib.hid ht
        clear hE H1 H2
        go_wp2_with fail
        refine HL.out.mono ?_
        rintro e0 w7 ⟨_, rfl, l, n5, e5, hn5, hl1, hl2, hg5, H3⟩
        have hce := Lib.hid ((codesS_end (n' := n5) (l := l) (e' := e5) hGe.out).2 (by rw [← hXe.out]; exact ht.out) (by rw [← hXe.out]; exact hg5))
        clear HL hGe hg5
        have HK := Lib.hid (ptok_any (H3.front 1 rfl))
        obtain ⟨a, c, rfl, hc1, hc2⟩ := H3.rd.shape
        by_cases he5 : e5 = 0
        case neg =>
          rw [decide_eq_false he5] at HK
          have hbad := Lib.hid (hce.out.1 he5)
          replace he5 := Lib.hid he5
          clear hce hl2
          go_wp2_with fail
          refine HK.out.mono ?_
          rintro e1 w8 ⟨rfl, rfl⟩
          go_wp2_with fail
          go_ret2
          exact ⟨_, rfl, none, none, ([], []), n5, e5, rfl, hn5, hbad.out _ _, fun h => absurd h he5.out, fun _ => (H3.drop.front 1 rfl).drop⟩
        subst he5
        rw [decide_eq_true rfl] at HK
        have hlN := Lib.hid (hl2 rfl)
        have hGl := Lib.hid (hce.out.2 rfl)
        clear hl1 hl2 hce
        obtain ⟨bl, c', hbl, -, -, -, -, hcl, -⟩ := H3.at (by rw [nums_length, hlN.out]; omega)
        cases hbl
        have c256 : w7.cell? ⟨bl, 256, none⟩ = some (.int .i64 (l.getD 256 0)) := hcl 256 _ (nums_get (getD_get (by rw [hlN.out]; omega)))
        obtain ⟨x, hx⟩ : ∃ x, Hid (l.getD 256 0 = x) := ⟨_, rfl⟩
        rw [hx.out] at c256 hGl
        replace hcl := Lib.hid hcl
        obtain ⟨M, hM⟩ : ∃ M, Hid (l.length = M) := ⟨_, rfl⟩
        rw [hM.out] at H3 hlN hc1 ⊢
        have hMb : 257 + A + 1 ≤ M := by have := hlN.out; omega
        have hMb2 : M ≤ 400 := by have := hlN.out; omega
        have h256 : (256 : Int) < (M : Int) := by omega
        go_wp2_with fail
        refine HK.out.mono ?_
        rintro e1 w8 ⟨rfl, rfl⟩
        clear HK
        go_upto_if 62 with (fail)
        obtain ⟨bx, hbx⟩ : ∃ b, Hid ((x == 0) = b) := ⟨_, rfl⟩
        rw [hbx.out]
        go_cut [] (fun wx => ∃ e6 : Int, Hid (e6 = if x = 0 then 2 else 0) ∧ Own w0 wx (slc 3 1 (.slice (some ⟨bl, 0, none⟩) M c) M (nums l) :: Prt g rg s n5 e6 :: Tbl t X :: ps))
        case first =>
          cases bx
          case true =>
            have he0 : Hid ((2 : Int) = if x = 0 then 2 else 0) := Lib.hid (if_pos (by simpa using hbx.out)).symm
            have HH := Lib.hid (ptfail_any (g := g) (rg := rg) (H3.front 1 rfl))
            rw [if_pos rfl] at HH
            go_wp2_with fail
            refine HH.out.mono ?_
            rintro e w4 ⟨_, rfl, H4⟩
            clear HH
            go_wp2
            go_meet
            exact ⟨2, he0, H4.front 1 rfl⟩
          case false =>
            have he0 : Hid ((0 : Int) = if x = 0 then 2 else 0) := Lib.hid (if_neg (by simpa using hbx.out)).symm
            go_wp2
            go_meet
            exact ⟨0, he0, H3⟩
        case rest =>
        clear c256 H3
        obtain ⟨e6, he6, H⟩ := hcut
        obtain ⟨l1, hl1⟩ : ∃ l1, Hid (l.take (257 + A) = l1) := ⟨_, rfl⟩
        obtain ⟨l2, hl2⟩ : ∃ l2, Hid (l.drop (257 + A) = l2) := ⟨_, rfl⟩
        rw [hl1.out, hl2.out] at hGl
        have hrd : ∀ (w1 : World) (qs : List Piece), Own w0 w1 (slc 3 1 (.slice (some ⟨bl, 0, none⟩) M c) M (nums l) :: qs) → Rd w1 1 (.slice (some ⟨bl, 0, none⟩) (257 + A) c) (257 + A) (nums l1) ∧ Rd w1 1 (.slice (some ⟨bl, 257 + A, none⟩) (M - (257 + A)) (c - (257 + A))) (M - (257 + A)) (nums l2) := fun w1 qs h => by
          have h1 := h.rd.take (k := 257 + A) (by omega)
          have h2 := h.rd.tail (k := 257 + A) (by omega)
          simp only [Nat.mul_one, Addr.add_lit, Nat.zero_add, nums, ← List.map_take, ← List.map_drop, hl1.out, hl2.out] at h1 h2
          exact ⟨h1, h2⟩
        replace hrd := Lib.hid hrd
        have hk1 : (257 : Int) + (A : Int) ≤ c := by omega
        have hk2 : (257 : Int) + (A : Int) ≤ M := by omega
        have hk3 : (0 : Int) ≤ 257 + (A : Int) := by omega
        have hk4 : ((257 : Int) + (A : Int)).toNat = 257 + A := by omega
        have hk5 : ¬ (257 + A = c) := by omega
        have hk6 : ¬ (c = 257 + A) := by omega
        have hk7 : M ≤ c := hc1
        go_upto_region 18 with (fail)
        have HD0 : Own w0 wc (Prt g rg s n5 (eF l1 l2 e6 none none) :: slc 3 1 (.slice (some ⟨bl, 0, none⟩) M c) M (nums l) :: (optT l1 none ++ (optT l2 none ++ (Tbl t X :: ps)))) := by
          have : eF l1 l2 e6 none none = e6 := by simp [eF]
          rw [this]
          exact H.front 1 rfl
        refine wp_region_new (fun σ w1 => Own w0 w1 (Prt g rg s n5 (eF l1 l2 e6 (σ 4) (σ 9)) :: slc 3 1 (.slice (some ⟨bl, 0, none⟩) M c) M (nums l) :: (optT l1 (σ 4) ++ (optT l2 (σ 9) ++ (Tbl t X :: ps))))) 10 [4, 9] (by kernel_rfl) (by kernel_rfl) HD0.drew ?_
        simp only [List.take_succ_cons, List.take_zero, List.drop_succ_cons, List.drop_zero]
        repeat
          first
          | (refine calm_value (v := ?_) (by decide) rfl (fun σ w1 hS => ?_) ?_
             rotate_left
             · skip
               first | (go_simp; rfl) | rfl
             simp only [Act.put, List.setIfInBounds_toArray, List.set_cons_zero, List.set_cons_succ])
          | (refine calm_skip (by decide) rfl ?_
             simp only [Act.put, List.setIfInBounds_toArray, List.set_cons_zero, List.set_cons_succ])
        refine ncalm_call (by decide) (fun w1 => (by go_simp; first | exact ⟨rfl, rfl⟩ | rfl)) (fun σ w1 hS => ?_) ?_
        · refine (pttable_g (hrd.out _ _ (hS.front 1 rfl)).1 (by omega) hS).mono ?_
          rintro e w8 ⟨r, rfl, h8⟩
          refine ⟨r, rfl, ?_⟩
          rw [eF_left (v := r)] at h8
          have h9 := h8.opt_left
          simpa [Sig.upd] using h9
        repeat
          first
          | (refine calm_value (v := ?_) (by decide) rfl (fun σ w1 hS => ?_) ?_
             rotate_left
             · skip
               first | (go_simp; rfl) | rfl
             simp only [Act.put, List.setIfInBounds_toArray, List.set_cons_zero, List.set_cons_succ])
          | (refine calm_skip (by decide) rfl ?_
             simp only [Act.put, List.setIfInBounds_toArray, List.set_cons_zero, List.set_cons_succ])
        refine ncalm_call (by decide) (fun w1 => (by go_simp; first | exact ⟨rfl, rfl⟩ | rfl)) (fun σ w1 hS => ?_) ?_
        · refine (pttable_g (hrd.out _ _ (hS.front 1 rfl)).2 (by omega) hS).mono ?_
          rintro e w8 ⟨r, rfl, h8⟩
          refine ⟨r, rfl, ?_⟩
          rw [eF_right (v := r)] at h8
          have h9 := h8.opt_right
          simpa [Sig.upd] using h9
        refine calm_nil ?_
        intro σ wd hσ HD
        obtain ⟨v4, hv4⟩ := Option.isSome_iff_exists.1 (hσ 4 (by decide))
        obtain ⟨v9, hv9⟩ := Option.isSome_iff_exists.1 (hσ 9 (by decide))
        rw [hv4, hv9] at HD
        simp only [putNew, List.foldl_cons, List.foldl_nil, hv4, hv9]
        simp only [Act.put, List.setIfInBounds_toArray, List.set_cons_zero, List.set_cons_succ, List.getElem?_cons_succ, List.getElem?_cons_zero, Option.bind_some, Option.getD_some]
        clear hσ hv4 hv9 hrd HD0 H
        obtain ⟨eL, heL⟩ : ∃ eL, Hid (eF l1 l2 e6 (some v4) (some v9) = eL) := ⟨_, rfl⟩
        rw [heL.out] at HD
        have HE : Own w0 wd (TblO v4 l1 :: TblO v9 l2 :: Prt g rg s n5 eL :: slc 3 1 (.slice (some ⟨bl, 0, none⟩) M c) M (nums l) :: Tbl t X :: ps) := (HD.front 3 rfl).front 3 rfl
        clear HD
        have hfin : Hid (∃ ao bo, v4 = .pointer ao ∧ v9 = .pointer bo ∧ GotS G (l1, l2) n5 eL ∧ (eL = 0 → TabOk l1 ∧ TabOk l2 ∧ ∃ a b, ao = some ⟨a, 0, none⟩ ∧ bo = some ⟨b, 0, none⟩ ∧ Own w0 wd (Prt g rg s n5 0 :: Tbl a l1 :: Tbl b l2 :: ps)) ∧ (eL ≠ 0 → Own w0 wd (Prt g rg s n5 eL :: ps))) := Lib.hid (by
          have hnil : eL ≠ 0 → Own w0 wd (Prt g rg s n5 eL :: ps) := fun _ => ((HE.drop.drop.front 1 rfl).drop.front 1 rfl).drop
          have e6c := he6.out
          have eLc := heL.out
          unfold eF at eLc
          simp only [Option.isSome_some, true_and] at eLc
          have hGc := hGl.out
          by_cases t1 : terrF l1 = 0
          · obtain ⟨a, rfl, HF⟩ := HE.tblo t1
            by_cases t2 : terrF l2 = 0
            · obtain ⟨b, rfl, HJ⟩ := (HF.front 1 rfl).tblo t2
              refine ⟨_, _, rfl, rfl, ?_, fun h0 => ⟨tab_ok t1, tab_ok t2, a, b, rfl, rfl, ?_⟩, hnil⟩
              · rw [if_neg (by simp [t1, t2])] at eLc
                by_cases hx0 : x = 0
                · rw [if_pos hx0] at e6c
                  rw [if_neg (by simp [hx0])] at hGc
                  rw [hGc, ← eLc, e6c]; rfl
                · rw [if_neg hx0] at e6c
                  rw [if_pos ⟨hx0, t1, t2⟩] at hGc
                  rw [hGc, ← eLc, e6c]; exact ⟨rfl, rfl, rfl⟩
              · rw [h0] at HJ
                have HK : Own w0 wd (Tbl b l2 :: Tbl a l1 :: Prt g rg s n5 0 :: ps) := ((HJ.front 3 rfl).drop.front 3 rfl).drop
                exact (HK.front 1 rfl).front 2 rfl
            · obtain ⟨rfl, HJ⟩ := (HF.front 1 rfl).tblo_none t2
              rw [if_pos (.inr t2)] at eLc
              have : eL = 2 := by rw [← eLc, e6c]; split <;> split <;> simp_all
              rw [if_neg (by simp [t2])] at hGc
              refine ⟨_, _, rfl, rfl, by rw [hGc, this]; rfl, fun h0 => by omega, hnil⟩
          · obtain ⟨rfl, HF⟩ := HE.tblo_none t1
            rw [if_pos (.inl t1)] at eLc
            have : eL = 2 := by rw [← eLc, e6c]; split <;> split <;> simp_all
            rw [if_neg (by simp [t1])] at hGc
            by_cases t2 : terrF l2 = 0
            · obtain ⟨b, rfl, HJ⟩ := HF.tblo t2
              exact ⟨_, _, rfl, rfl, by rw [hGc, this]; rfl, fun h0 => by omega, hnil⟩
            · obtain ⟨rfl, HJ⟩ := HF.tblo_none t2
              exact ⟨_, _, rfl, rfl, by rw [hGc, this]; rfl, fun h0 => by omega, hnil⟩)
        obtain ⟨ao, bo, rfl, rfl, hf1, hf2, hf3⟩ := hfin.out
        replace hf1 := Lib.hid hf1
        replace hf2 := Lib.hid hf2
        replace hf3 := Lib.hid hf3
        clear hfin HE
        go_wp2_with fail
        go_ret2
        exact ⟨_, rfl, ao, bo, (l1, l2), n5, eL, rfl, hn5, hf1.out, hf2.out, hf3.out⟩
end Go.Proofs.Ytljejkdkjnbmhaa
/- stream: the walk of fixed. -/
namespace Go.Proofs.Ytljejkdkjnbmhaa
open Go.RowKit

set_option maxRecDepth 100000 in
set_option maxHeartbeats 3200000 in
theorem stfixed_any (w : World) : Calls Try.prog 30 #[] w (Ret fun r w' => ∃ a b, r = .tuple #[.pointer (some ⟨a, 0, none⟩), .pointer (some ⟨b, 0, none⟩)] ∧ Own w w' [Tbl b fixD, Tbl a fixL]) := by
  have H := Own.start w
  go_enter Try.func30, Try.ntmps30
  go_wp2_with fail
  refine (repeat_any 144 (one_row (H.alloc (.cells #[.int .i64 8] 3)).block.1) (by omega)).mono ?_
  rintro e w1 ⟨v1, rfl, H1⟩
  have H := (H.alloc (.cells #[.int .i64 8] 3)).drop.join H1
  obtain ⟨a1, c1, rfl, -⟩ := H.rd.shape
  clear H1
  go_wp2_with fail
  refine (repeat_any 112 (one_row (H.alloc (.cells #[.int .i64 9] 3)).block.1) (by omega)).mono ?_
  rintro e w2 ⟨v2, rfl, H2⟩
  have H := (H.alloc (.cells #[.int .i64 9] 3)).drop.join H2
  obtain ⟨a2, c2, rfl, -⟩ := H.rd.shape
  clear H2
  go_wp2_with fail
  refine (repeat_any 24 (one_row (H.alloc (.cells #[.int .i64 7] 3)).block.1) (by omega)).mono ?_
  rintro e w3 ⟨v3, rfl, H3⟩
  have H := (H.alloc (.cells #[.int .i64 7] 3)).drop.join H3
  obtain ⟨a3, c3, rfl, -⟩ := H.rd.shape
  clear H3
  go_wp2_with fail
  refine (repeat_any 8 (one_row (H.alloc (.cells #[.int .i64 8] 3)).block.1) (by omega)).mono ?_
  rintro e w4 ⟨v4, rfl, H4⟩
  have H := (H.alloc (.cells #[.int .i64 8] 3)).drop.join H4
  obtain ⟨a4, c4, rfl, -⟩ := H.rd.shape
  clear H4
  go_wp2_with fail
  have H5 := H.alloc (.cells #[.slice a1 144 c1, .slice a2 112 c2, .slice a3 24 c3, .slice a4 8 c4] 30)
  have hrow : Rd (w4.alloc (.cells #[.slice a1 144 c1, .slice a2 112 c2, .slice a3 24 c3, .slice a4 8 c4] 30)) 1 (.slice (some ⟨w4.heap.size, 0, none⟩) 4 4) 4 [.slice a1 144 c1, .slice a2 112 c2, .slice a3 24 c3, .slice a4 8 c4] := by
    refine ⟨rfl, _, _, rfl, Nat.le_refl _, by decide, by simp, fun ad had j u hu => ?_⟩
    obtain rfl := Option.some.inj had
    rw [Addr.add_lit, Nat.zero_add, H5.cell]
    simpa using hu
  have h8 := (H5.front 1 rfl).rd
  have h24 := (H5.front 2 rfl).rd
  have h112 := (H5.front 3 rfl).rd
  have h144 := (H5.front 4 rfl).rd
  have hcc := concat_any [List.replicate 144 (8 : Int), List.replicate 112 9, List.replicate 24 7, List.replicate 8 8] [.slice a1 144 c1, .slice a2 112 c2, .slice a3 24 c3, .slice a4 8 c4] hrow rfl rfl (by omega) (fun k u L hu hL => by
    match k with
    | 0 => cases hu; cases hL; exact h144
    | 1 => cases hu; cases hL; exact h112
    | 2 => cases hu; cases hL; exact h24
    | 3 => cases hu; cases hL; exact h8
    | k + 4 => cases hu) (by rw [fixL_flat, fixL_ok.1]; omega)
  rw [fixL_flat, fixL_ok.1] at hcc
  refine hcc.mono ?_
  rintro e w5 ⟨v5, rfl, H6⟩
  have H7 : Own w w5 [slc 3 1 v5 288 (nums fixL)] := H5.bare.join H6
  obtain ⟨a5, c5, rfl, -⟩ := H7.rd.shape
  clear H6 H5 hcc hrow h8 h24 h112 h144 H
  go_wp2_with fail
  refine (hnew_any H7.rd (by omega)).mono ?_
  rintro e w6 ⟨_, rfl, pv, rfl, -, hn2⟩
  rw [fix_terr.1]
  obtain ⟨g, rfl, H8⟩ := hn2 fix_terr.1
  have H := H7.drop.join H8
  clear H8 H7 hn2
  go_wp2_with fail
  refine (repeat_any 32 (one_row (H.alloc (.cells #[.int .i64 5] 3)).block.1) (by omega)).mono ?_
  rintro e w7 ⟨v6, rfl, H6⟩
  have H7 := (H.alloc (.cells #[.int .i64 5] 3)).drop.join H6
  obtain ⟨a6, c6, rfl, -⟩ := H7.rd.shape
  clear H6 H
  go_wp2_with fail
  refine (hnew_any (F := fixD) H7.rd (by omega)).mono ?_
  rintro e w8 ⟨_, rfl, pv, rfl, -, hn2⟩
  rw [fix_terr.2]
  obtain ⟨g2, rfl, H8⟩ := hn2 fix_terr.2
  have H := H7.drop.join H8
  clear H8 H7 hn2
  go_wp2_with fail
  go_ret2
  exact ⟨_, rfl, _, _, rfl, H⟩
end Go.Proofs.Ytljejkdkjnbmhaa
