/-
  Bits: the walk of the document's Bytes.
-/
import Derived.Test.YtbooacglmeoceaaBitsR
namespace Go.Proofs.Ytbooacglmeoceaa
open Go.RowKit

set_option maxHeartbeats 800000 in
theorem rbytes_gen {w0 w : World} {ps : List Piece} {g n c : Nat} {a : Option Addr} {bs : List Bool} (H : Own w0 w (blk g (.cells #[.slice a n c] 29) :: slc 3 1 (.slice a n c) n (intBits bs) :: ps)) (hn : Hid (bs.length = n)) (hl : n ≤ 8796093022000) (hc1 : n ≤ c) (hc2 : c ≤ 9223372036854775807) :
    Calls Try.prog 12 #[.pointer (some ⟨g, 0, none⟩)] w (Ret fun v w' => v = .string (textOf bs) ∧ Own w0 w' (blk g (.cells #[.slice a n c] 29) :: slc 3 1 (.slice a n c) n (intBits bs) :: ps)) := by
  go_enter Try.func12, Try.ntmps12
  go_wp2_with fail
  go_loopw [3, 4] (fun v i wx => ∃ k : Nat, k ≤ n ∧ i = .int .i64 k ∧ Own w0 wx (slc 5 1 v (nbytes k) (u8s (bytesOf (bs.take k))) :: blk g (.cells #[.slice a n c] 29) :: slc 3 1 (.slice a n c) n (intBits bs) :: ps)) (fun _ i _ => n - (intOf i).toNat)
  case atStart => exact ⟨0, Nat.zero_le _, rfl, by simpa [nbytes, bytesOf, u8s] using H.nil 5 1⟩
  case round =>
    clear H
    obtain ⟨k, hk, rfl, H⟩ := hrel
    obtain ⟨a1, cp1, rfl, hd1, hd2⟩ := H.rd.shape
    replace H := (H.swap.front 2 rfl).swap
    have c0 := H.cells
    by_cases hlt : k < n
    · obtain ⟨r, hr⟩ : ∃ r, Hid (r = k % 8) := ⟨_, Lib.hid rfl⟩
      obtain ⟨q, hq⟩ : ∃ q, Hid (q = k / 8) := ⟨_, Lib.hid rfl⟩
      have hrt : (k : Int).tmod 8 = (r : Int) := by have := hr.out; rw [Int.tmod_eq_emod_of_nonneg (by omega)]; omega
      have hqt : (k : Int).tdiv 8 = (q : Int) := by have := hq.out; rw [Int.tdiv_eq_ediv_of_nonneg (by omega)]; omega
      have hrt' : (k : Int) % 8 = (r : Int) := by have := hr.out; omega
      have hqt' : (k : Int) / 8 = (q : Int) := by have := hq.out; omega
      have hr8 : r < 8 := by have := hr.out; omega
      obtain ⟨b, hb⟩ : ∃ b, Hid (bs[k]? = some b) := ⟨bs[k]'(by rw [hn.out]; exact hlt), Lib.hid (List.getElem?_eq_getElem _)⟩
      have htk : Hid (bs.take (k + 1) = bs.take k ++ [b]) := Lib.hid (by rw [List.take_add_one, hb.out]; rfl)
      have htl : (bs.take k).length = k := by rw [List.length_take, hn.out]; omega
      have hsn := Lib.hid (bytesOf_snoc (bs.take k) b)
      have htl := Lib.hid htl
      go_upto_if 16 with (fail)
      go_cut [3] (fun s3 wx => ∃ a1 cp1 N L, s3 = .slice a1 N cp1 ∧ Hid (N = nbytes (k + 1)) ∧ N ≤ cp1 ∧ cp1 ≤ 9223372036854775807 ∧ Hid (L = if (bs.take k).length % 8 = 0 then bytesOf (bs.take k) ++ [0] else bytesOf (bs.take k)) ∧
        Own w0 wx (slc 5 1 (.slice a1 N cp1) N (u8s L) :: blk g (.cells #[.slice a n c] 29) :: slc 3 1 (.slice a n c) n (intBits bs) :: ps))
      case first =>
        by_cases h0 : r = 0
        · subst h0
          replace H := H.front 2 rfl
          go_wp2_with (at_builtin; refine wpList_append_one rfl _ _ rfl Try.underlying23 u8Info rfl (by decide) rfl H rfl rfl rfl (by simp [Value.oneCell']) (by unfold nbytes; omega) (by unfold nbytes; omega) ?_; clear H c0; intro v' w' H; obtain ⟨a', c', rfl, h1', h2'⟩ := H.rd.shape)
          go_meet
          refine ⟨a', c', nbytes k + 1, bytesOf (bs.take k) ++ [0], rfl, Lib.hid (by have := hr.out; unfold nbytes; omega), h1', h2', Lib.hid (by rw [if_pos (by rw [htl.out]; have := hr.out; omega)]), ?_⟩
          simpa [u8s] using H
        · have h0' : ((r : Int) == 0) = false := by simpa using h0
          go_wp2
          go_meet
          exact ⟨a1, cp1, nbytes k, bytesOf (bs.take k), rfl, Lib.hid (by have := hr.out; unfold nbytes; omega), hd1, hd2, Lib.hid (by rw [if_neg (by rw [htl.out]; have := hr.out; omega)]), H.front 2 rfl⟩
      case rest =>
        clear H c0
        obtain ⟨a1, cp1, N, L, rfl, hN, hd1, hd2, hL, H⟩ := hcut
        have hfin := hsn.out L hL.out
        rw [htl.out, ← hq.out, ← hr.out, ← htk.out] at hfin
        obtain ⟨k1, k2, k3⟩ := hfin
        have hx0 := (byteAt_bd (bs.take k) q).1
        have hx1 := byteAt_bd' (bs.take k)
        rw [htl.out, ← hq.out, ← hr.out] at hx1
        obtain ⟨x, hx⟩ : ∃ x, Hid (byteAt (bs.take k) q = x) := ⟨_, rfl⟩
        rw [hx.out] at hx0 hx1 k2 k3
        have hqN : q < N := by have := hN.out; have := hq.out; unfold nbytes at *; omega
        have hqN' : (q : Int) < (N : Int) := by omega
        have hwq : IntKind.i64.wrap (q : Int) = q := IntWalk.i64_in _ ⟨by omega, by omega⟩
        have hwr : IntKind.i64.wrap (r : Int) = r := IntWalk.i64_in _ ⟨by omega, by omega⟩
        have hlen : 0 < (u8s L).length := by have := hN.out; simp [u8s]; omega
        obtain ⟨g2, _, e, _⟩ := H.at hlen
        cases e
        have hu : Hid ((u8s L)[q]? = some (.int .u8 x)) := Lib.hid (by simp [u8s, k2])
        have hlen2 : 0 < (intBits bs).length := by simp [intBits]; rw [hn.out]; omega
        obtain ⟨g3, _, e, _, _, _, _, hbk, _⟩ := (H.front 2 rfl).at hlen2
        cases e
        have c0 := (H.front 1 rfl).cells
        have cb := hbk k (.int .i64 (bi b)) (by simp [intBits, hb.out])
        clear hbk
        cases b
        · simp only [bi] at cb
          go_wp2
          go_roundw
          case rel => exact ⟨k + 1, by omega, by go_num, by
            have hqL : q < L.length := (List.getElem?_eq_some_iff.1 k2).1
            have e2 : L.set q (x + 2 ^ r * bi false) = L := by
              have hxq : x + 2 ^ r * bi false = L[q] := by rw [(List.getElem?_eq_some_iff.1 k2).2]; simp [bi]
              rw [hxq]
              exact List.set_getElem_self hqL
            rw [k3, e2, ← hN.out]
            exact H⟩
          case measure => simp [intOf]; omega
        · simp only [bi] at cb
          have h1 : x + 2 ^ r * bi true = x + 2 ^ r := by simp [bi]
          rw [h1] at k3
          have hor := or8' hr8 hx0 hx1
          obtain ⟨y, hy⟩ : ∃ y, Hid (x + 2 ^ r = y) := ⟨_, rfl⟩
          rw [hy.out] at hor k3
          go_upto_region 8 with (fail)
          refine wp_region_calm (fun w1 => Own w0 w1 (slc 5 1 (.slice (some ⟨g2, 0, none⟩) N cp1) N (u8s L) :: blk g (.cells #[.slice (some ⟨g3, 0, none⟩) n c] 29) :: slc 3 1 (.slice (some ⟨g3, 0, none⟩) n c) n (intBits bs) :: ps)) 12 (by kernel_rfl) (by kernel_rfl) H.drew ?_
          simp only [List.take_succ_cons, List.take_zero, List.drop_succ_cons, List.drop_zero]
          repeat
            refine calm_value (v := ?_) (by decide) rfl (fun σ w1 hS => ?_) ?_; rotate_left
            · obtain ⟨_, _, e, _, _, _, _, c1, _⟩ := hS.at hlen
              cases e
              replace c1 := c1 q _ hu.out
              first | (go_simp; rfl) | rfl
            simp only [Act.put, List.setIfInBounds_toArray, List.set_cons_zero, List.set_cons_succ]
          refine calm_nil ?_
          intro wd HD
          clear H
          go_wp2_with (refine wpList_store_slc rfl _ _ rfl rfl HD (.int .u8 y) rfl (by kernel_rfl) hqN rfl ?_; clear HD; intro w2 HD)
          go_roundw
          case rel => exact ⟨k + 1, by omega, by go_num, by
            rw [k3, ← hN.out]
            simpa [u8s] using HD⟩
          case measure => simp [intOf]; omega
    · obtain rfl : k = n := by omega
      rw [List.take_of_length_le (by rw [hn.out]; exact Nat.le_refl _)] at H
      have hs := run_string_sep (P := Try.prog) 23 9 Try.underlying23 Try.underlying5 Try.underlying9 (H.front 2 rfl).rd
      rw [show strOfNums (bytesOf bs) = textOf bs from rfl] at hs
      have H2 : Own w0 wr (blk g (.cells #[.slice a k c] 29) :: slc 3 1 (.slice a k c) k (intBits bs) :: ps) := ((H.front 2 rfl).drop)
      clear H
      go_wp2
      go_ret
      exact ⟨_, rfl, rfl, H2⟩
theorem rbytes_any {w0 w : World} {ps : List Piece} {g : Nat} {bs : List Bool} (H : Own w0 w (RWtr g bs :: ps)) (hl : bs.length ≤ 8796093022000) :
    Calls Try.prog 12 #[.pointer (some ⟨g, 0, none⟩)] w (Ret fun v w' => v = .string (textOf bs) ∧ Own w0 w' (RWtr g bs :: ps)) := by
  obtain ⟨a, c, hc1, hc2, H⟩ := H.rwtr
  refine (rbytes_gen H (Lib.hid rfl) hl hc1 hc2).mono ?_
  rintro e w2 ⟨v, rfl, rfl, H2⟩
  exact ⟨_, rfl, rfl, H2.unrwtr rfl rfl⟩
end Go.Proofs.Ytbooacglmeoceaa
