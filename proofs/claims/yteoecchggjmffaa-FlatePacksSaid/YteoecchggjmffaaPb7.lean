/-
  Texts of this claim, one behind the other: huff; huff; flate; flate; flate; flate; Bits; flate.
-/
import Derived.Test.YteoecchggjmffaaPb6
import Derived.Deep.OwnRows
set_option linter.unusedVariables false
/- huff: the walk of Lengths: the rows. -/
namespace Go.Proofs.Yteoecchggjmffaa
open Go.RowKit

theorem crowInfo : (Try.prog.info? 106).map (fun i => (i.zero, i.size, i.bytes)) = some (some (.slice none 0 0), 1, 24) := by kernel_rfl
theorem rows_map_one (F : List Int) (z : Nat) : ce (coinOf F z) = [.int .i64 (F.getD z 0), .bool false] := rfl

set_option maxRecDepth 100000 in
set_option maxHeartbeats 12800000 in
theorem len_tail22 {w wr : World} {base : List Coin} {v : Value} {F syms o R : List Int} {L N n B og oc sg sc : Nat} {er : Int} (hb : Hid (Base base)) (hbe : Hid (syms.map (coinOf F) = base)) (hN : Hid (base.length = N)) (h2 : 2 ≤ N) (hN3 : N ≤ 320) (hL1 : 1 ≤ L) (hL2 : L ≤ 15) (hn : n ≤ 320) (ho : Hid (o.length = n)) (hz : Hid (∀ s, o.getD s 0 = 0))
    (hsl : Hid (syms.length = N)) (hnd : Hid syms.Nodup) (hin : Hid (∀ x ∈ syms, ∃ s : Nat, x = s ∧ s < n)) (hpow : Hid (N ≤ 2 ^ L)) (he : er = 0) (hR : Hid (outF syms (cntF base (L - 1) (2 * N - 2)) o = R)) (hr : Hid (Rd w 1 v n (nums F))) (hF : Hid (∀ c ∈ base, c.w ≤ 4294967296))
    (z0 z3 z4 z5 z6 z8 z9 z11 z12 z13 z14 z15 z16 z17 z18 z19 z20 z21 z22 z23 z24 z25 z26 z27 z28 z29 z30 z31 z32 z33 z34 z35 z36 z37 z38 z39 z40 z41 z42 z43 z44 z45 z46 z47 z48 z49 z50 z51 z52 z53 z54 z55 z56 z57 z58 z59 z60 z61 z62 z63 z64 z65 z66 z67 z68 z69 z70 z71 z72 z73 z74 z75 z76 z77 z78 z79 z80 z81 z82 z83 z84 z85 z86 z87 z88 z89 z90 z91 z92 z93 z94 z95 z96 z97 z98 z99 z100 z101 z102 z103 z104 z105 z106 z107 z108 z109 z110 z111 z112 z113 z114 z115 z116 z117 z118 z119 z120 z121 z122 z123 z124 z125 z126 z127 z128 z129 z130 z131 z132 z133 z134 z135 z136 z137 z138 z139 z140 z141 z142 z143 z144 z145 z146 z147 z148 : Value)
    (H : Own w wr (slc 3 1 (.slice (some ⟨og, 0, none⟩) n oc) n (nums o) :: slc 3 1 (.slice (some ⟨sg, 0, none⟩) N sc) N (nums syms) :: blk B (.cells #[v] 26) :: [])) :
    Code.wp Try.prog (lenTail 22) (bodyPost Try.prog Try.f60 (Ret fun r w' => ∃ ov, r = .tuple #[ov, .int .i64 er] ∧ Own w w' [slc 3 1 ov n (nums R)]))
      ⟨#[z0, .int .i64 L, .pointer (some ⟨B, 0, none⟩), z3, z4, z5, z6, .slice (some ⟨sg, 0, none⟩) N sc, z8, z9, .slice (some ⟨og, 0, none⟩) n oc, z11, z12, z13, z14, z15, z16, z17, z18, z19, z20, z21, z22, z23, z24, z25, z26, z27, z28, z29, z30, z31, z32, z33, z34, z35, z36, z37, z38, z39, z40, z41, z42, z43, z44, z45, z46, z47, z48, z49, z50, z51, z52, z53, z54, z55, z56, z57, z58, z59, z60, z61, z62, z63, z64, z65, z66, z67, z68, z69, z70, z71, z72, z73, z74, z75, z76, z77, z78, z79, z80, z81, z82, z83, z84, z85, z86, z87, z88, z89, z90, z91, z92, z93, z94, z95, z96, z97, z98, z99, z100, z101, z102, z103, z104, z105, z106, z107, z108, z109, z110, z111, z112, z113, z114, z115, z116, z117, z118, z119, z120, z121, z122, z123, z124, z125, z126, z127, z128, z129, z130, z131, z132, z133, z134, z135, z136, z137, z138, z139, z140, z141, z142, z143, z144, z145, z146, z147, z148], []⟩ wr := by
  conv => arg 2; whnf
  dsimp only
  have hFl : Hid (F.length = n) := Lib.hid (by have := hr.out.len; rw [nums_length] at this; omega)
  obtain ⟨x0, hx0⟩ := get_of_lt (l := syms) (k := 0) (by have := hsl.out; omega)
  obtain ⟨z0', _, hz0'⟩ := hin.out x0 (List.mem_of_getElem? hx0)
  obtain ⟨fb, fo, fc, rfl, hc1, hc2⟩ := hr.out.some (by rw [nums_length]; have := hFl.out; omega)
  clear hx0
  have H := (H.nil 108 2)
  have hwL : IntKind.i64.wrap ((L : Int) - 1) = (L : Int) - 1 := IntWalk.i64_in _ ⟨by omega, by omega⟩
  go_wp2_with fail
  go_loopw [13, 80] (fun s13 s80 wx => ∃ k : Nat, s80 = .int .i64 k ∧ k ≤ N ∧ Own w wx (slc 108 2 s13 k (rows ce ((syms.take k).map (coinOf F))) :: slc 3 1 (.slice (some ⟨og, 0, none⟩) n oc) n (nums o) :: slc 3 1 (.slice (some ⟨sg, 0, none⟩) N sc) N (nums syms) :: blk B (.cells #[.slice (some ⟨fb, fo, none⟩) n fc] 26) :: [])) (fun _ s80 _ => N - (intOf s80).toNat)
  case atStart => exact ⟨0, by go_num, by omega, by simpa [rows] using H⟩
  case round =>
    clear H
    obtain ⟨k, rfl, hk, H⟩ := hrel
    by_cases hlt : k < N
    · obtain ⟨x, hx⟩ := get_of_lt (l := syms) (k := k) (by have := hsl.out; omega)
      obtain ⟨z, rfl, hz2⟩ := hin.out x (List.mem_of_getElem? hx)
      have hst : rows ce ((syms.take k).map (coinOf F)) ++ ce (coinOf F z) = rows ce ((syms.take (k + 1)).map (coinOf F)) := by
        rw [List.take_add_one, hx, List.map_append, rows_append]; rfl
      have c2 := (H.front 2 rfl).rd.cell (nums_get hx)
      have c3 := (H.front 3 rfl).cells
      have c1 := (hr.out.old H).cell (j := z) (nums_get (List.getElem?_eq_getElem (by have := hFl.out; omega)))
      rw [show F[z]'(by have := hFl.out; omega) = F.getD z 0 by rw [List.getD_eq_getElem?_getD, List.getElem?_eq_getElem (by have := hFl.out; omega)]; rfl] at c1
      rw [Nat.zero_add] at c2
      rw [rows_map_one] at hst
      have HST := Lib.hid hst
      obtain ⟨y, hy⟩ : ∃ y, Hid (F.getD z 0 = y) := ⟨_, rfl⟩
      rw [hy.out] at c1 HST
      have hkI : (k : Int) < (N : Int) := by omega
      have hzI : (z : Int) < (n : Int) := by omega
      clear hst hx
      go_wp2_with (at_builtin; refine wpList_append_one rfl _ _ rfl Try.underlying106 coinInfo rfl (by decide) rfl H (news := [.int .i64 y, .bool false]) rfl rfl rfl (by simp [Value.oneCell']) (by omega) (by omega) ?_; clear H c1 c2 c3; intro v' w' H; rw [HST.out] at H)
      go_roundw
      case rel => exact ⟨k + 1, by go_num, by omega, H⟩
      case measure => simp [intOf]; omega
    · obtain rfl : k = N := by omega
      rw [List.take_of_length_le (by have := hsl.out; omega), hbe.out] at H
      obtain ⟨bg, bc, rfl, hd1, hd2, -⟩ := H.at (by rw [rows_length ce SC.e_length, hN.out]; omega)
      obtain ⟨bv, hbv⟩ : ∃ bv, Hid (Value.slice (some ⟨bg, 0, none⟩) k bc = bv) := ⟨_, rfl⟩
      have hkI : ¬ (k : Int) < (k : Int) := by omega
      go_upto_region 29 with (fail)
      replace H := (H.alloc (.cells #[.slice (some ⟨bg, 0, none⟩) k bc] 106)).slc_mk (xs := [.slice (some ⟨bg, 0, none⟩) k bc]) (n := 1) (size := 1) rfl (Nat.le_refl _) (by decide) rfl rfl
      generalize wr.alloc (.cells #[.slice (some ⟨bg, 0, none⟩) k bc] 106) = w0 at *
      generalize wr.heap.size = rg0 at *
      have H : Own w w0 (slc 106 1 (.slice (some ⟨rg0, 0, none⟩) (0 + 1) 1) (0 + 1) ((List.range (0 + 1)).map (fun _ => Value.slice (some ⟨bg, 0, none⟩) k bc)) :: slc 3 1 (.slice (some ⟨og, 0, none⟩) n oc) n (nums o) :: slc 3 1 (.slice (some ⟨sg, 0, none⟩) k sc) k (nums syms) :: rowPs base (fun _ => Value.slice (some ⟨bg, 0, none⟩) k bc) (0 + 1)) := by
        have e : slc 108 2 (.slice (some ⟨bg, 0, none⟩) k bc) k (rows ce base) = slc 108 2 (.slice (some ⟨bg, 0, none⟩) k bc) (rowsF base 0).length (rows ce (rowsF base 0)) := by
          show _ = slc 108 2 _ base.length _
          rw [hN.out]; rfl
        rw [e] at H
        exact (((((H.front 3 rfl).front 3 rfl).front 2 rfl).front 4 rfl).drop)
      go_upto_block 6 with (fail)
      go_cut [16] (fun s16 wx => ∃ (rg rc : Nat) (f : Nat → Value), s16 = .slice (some ⟨rg, 0, none⟩) L rc ∧ Hid (f 0 = .slice (some ⟨bg, 0, none⟩) k bc) ∧ Own w wx (slc 106 1 (.slice (some ⟨rg, 0, none⟩) L rc) L ((List.range L).map f) :: slc 3 1 (.slice (some ⟨og, 0, none⟩) n oc) n (nums o) :: slc 3 1 (.slice (some ⟨sg, 0, none⟩) k sc) k (nums syms) :: rowPs base f L))
      case first =>
        go_wp2_with fail
        go_loopw [16, 97] (fun s16 s97 wx => ∃ (i rg rc : Nat) (f : Nat → Value), s97 = .int .i64 i ∧ i + 1 ≤ L ∧ s16 = .slice (some ⟨rg, 0, none⟩) (i + 1) rc ∧ Hid (f 0 = .slice (some ⟨bg, 0, none⟩) k bc) ∧ Own w wx (slc 106 1 (.slice (some ⟨rg, 0, none⟩) (i + 1) rc) (i + 1) ((List.range (i + 1)).map f) :: slc 3 1 (.slice (some ⟨og, 0, none⟩) n oc) n (nums o) :: slc 3 1 (.slice (some ⟨sg, 0, none⟩) k sc) k (nums syms) :: rowPs base f (i + 1))) (fun _ s97 _ => L - (intOf s97).toNat)
        case atStart => exact ⟨0, rg0, 1, _, by go_num, hL1, rfl, Lib.hid rfl, H⟩
        case round =>
          clear H
          obtain ⟨i, rg, rc, f, rfl, hi, rfl, hf0, H⟩ := hrel
          by_cases hlt : i + 1 < L
          · have hbase : Rd wr 2 (f 0) (rowsF base 0).length (rows ce (rowsF base 0)) := (H.front (3 + (i + 1 - 1 - 0)) (by
              rw [Nat.add_comm 3]
              simp only [List.getElem?_cons_succ]
              exact rowPs_get base f (i + 1) 0 (by omega))).rd
            have hlast : Rd wr 2 (f i) (rowsF base i).length (rows ce (rowsF base i)) := (H.front 3 rfl).rd
            have hbl : (rowsF base 0).length = k := hN.out
            have hll : (rowsF base i).length ≤ 1000 := by have := rowsF_len_le base i; have := hN.out; omega
            have hbw : ∀ c ∈ rowsF base i, 0 ≤ c.w ∧ c.w ≤ 1000000000000000000 := fun c hc => by
              have h1 := rowsF_pos hb.out i c hc
              have h2 := rowsF_le i 4294967296 (by omega) hF.out c hc
              have h3 : (2 : Int) ^ i ≤ 2 ^ 14 := by
                have : (2 : Nat) ^ i ≤ 2 ^ 14 := Nat.pow_le_pow_right (by omega) (by omega)
                exact_mod_cast this
              have h4 := Int.mul_le_mul_of_nonneg_right h3 (show (0 : Int) ≤ 4294967296 by omega)
              omega
            obtain ⟨fa, fcp, hfi, hf1, hf2⟩ := hlast.shape
            have hc := row_any hbase hlast (by rw [hbl]; omega) (by rw [hbl]; omega) hll hbw
            have e1 : rowF (rowsF base 0) (rowsF base i) = rowsF base (i + 1) := rfl
            rw [e1] at hc
            obtain ⟨_, _, he, hr1, hr2, -⟩ := H.at (by simp)
            cases he
            have c0 : wr.cell? ⟨rg, i, none⟩ = some (f i) := by
              have := H.rd.cell (j := i) (u := f i) (by simp)
              simpa using this
            rw [hf0.out] at hc
            rw [hfi] at c0 hc
            have HC := Lib.hid hc
            obtain ⟨ln, hln⟩ : ∃ ln, (rowsF base i).length = ln := ⟨_, rfl⟩
            rw [hln] at c0 HC
            have hiI : (i : Int) < ((L : Int) - 1) := by omega
            clear hc hbase hlast hbl hll hbw e1 hfi hln hf1 hf2
            go_wp2_with fail
            refine HC.out.mono ?_
            rintro e w1 ⟨r, rfl, H1⟩
            obtain ⟨ra, rcp, rfl, -⟩ := H1.rd.shape
            have H := (H.join H1).swap
            clear HC H1 c0
            obtain ⟨rv, hrv⟩ : ∃ rv, Hid (Value.slice ra (rowsF base (i + 1)).length rcp = rv) := ⟨_, rfl⟩
            obtain ⟨rl, hrl⟩ : ∃ rl, Hid ((rowsF base (i + 1)).length = rl) := ⟨_, rfl⟩
            rw [hrl.out] at hrv H ⊢
            go_wp2_with (at_builtin; refine wpList_append_one rfl _ _ rfl Try.underlying109 crowInfo rfl (by decide) rfl H (news := [.slice ra rl rcp]) rfl rfl rfl (by simp [Value.oneCell']) (by omega) (by omega) ?_; clear H; intro v' w' H; obtain ⟨rg2, rc2, rfl, -⟩ := H.at (by simp))
            rw [hrv.out] at H
            go_roundw
            case rel =>
              refine ⟨i + 1, rg2, rc2, fun j => if j = i + 1 then rv else f j, by go_num, by omega, rfl, Lib.hid (by show (if 0 = i + 1 then rv else f 0) = _; rw [if_neg (by omega)]; exact hf0.out), ?_⟩
              have e1 : (List.range (i + 1)).map f ++ [rv] = (List.range (i + 1 + 1)).map (fun j => if j = i + 1 then rv else f j) := by
                rw [List.range_succ (n := i + 1), List.map_append]
                congr 1
                · refine List.map_congr_left fun j hj => ?_
                  rw [if_neg (by have := List.mem_range.1 hj; omega)]
                · simp
              have e2 : rowPs base (fun j => if j = i + 1 then rv else f j) (i + 1 + 1) = slc 108 2 rv (rowsF base (i + 1)).length (rows ce (rowsF base (i + 1))) :: rowPs base f (i + 1) := by
                rw [rowPs, if_pos rfl, rowPs_congr base _ f (i + 1) fun j hj => by rw [if_neg (by omega)]]
              rw [← e1, e2]
              rw [hrl.out]
              exact ((((H.front 3 rfl).front 3 rfl).front 2 rfl))
            case measure => simp [intOf]; omega
          · have hLi : i + 1 = L := by omega
            rw [hLi] at H ⊢
            have hiI : ¬ (i : Int) < (L : Int) - 1 := by omega
            clear hLi hi hlt
            go_wp2_with fail
            go_meet
            exact ⟨rg, rc, f, rfl, hf0, H⟩
      case rest =>
        clear H
        obtain ⟨rg, rc, f, rfl, hf0, H⟩ := hcut
        apply_assumption
        have hb0 := hf0.out
        rw [← hb0]
        exact len_tail33 (n := n) hb hN h2 hN3 hL1 hL2 hn ho hz hsl hnd hin hpow he hR ⟨_, _, hb0⟩ _ _ _ _ _ _ _ _ _ _ _ _ _ _ _ _ _ _ _ _ _ _ _ _ _ _ _ _ _ _ _ _ _ _ _ _ _ _ _ _ _ _ _ _ _ _ _ _ _ _ _ _ _ _ _ _ _ _ _ _ _ _ _ _ _ _ _ _ _ _ _ _ _ _ _ _ _ _ _ _ _ _ _ _ _ _ _ _ _ _ _ _ _ _ _ _ _ _ _ _ _ _ _ _ _ _ _ _ _ _ _ _ _ _ _ _ _ _ _ _ _ _ _ _ _ _ _ _ _ _ _ _ _ _ _ _ _ _ _ _ _ _ _ _ H
end Go.Proofs.Yteoecchggjmffaa
/- huff: the walk of Lengths. -/
namespace Go.Proofs.Yteoecchggjmffaa
open Go.RowKit


theorem sort_syms {w0 w : World} {ps : List Piece} {N B n : Nat} {l F : List Int} {v sv : Value} (hr : Rd w0 1 v n (nums F)) (hn : n ≤ 1000000) (hok : ∀ x ∈ l, 0 ≤ x ∧ x < F.length) (hN : N = l.length) (hNb : N ≤ 1000000)
    (H : Own w0 w (slc 3 1 sv N (nums l) :: blk B (.cells #[v] 26) :: ps)) :
    Calls Try.prog 75 #[sv, SI.cf B] w (Ret fun _ w' => Own w0 w' (slc 3 1 sv N (nums (sortF (frq F) l)) :: blk B (.cells #[v] 26) :: ps)) := by
  rcases H.slc_cases with ⟨rfl, rfl, hx, H2⟩ | ⟨g, cap, cur, rfl, _⟩
  · refine (sortnil_any _ w).mono ?_
    rintro e w1 ⟨_, rfl, h⟩
    have hl : l = [] := List.eq_nil_of_length_eq_zero hN.symm
    subst hl
    exact ⟨_, rfl, (H2.join h).nil _ _⟩
  · rw [← rows_ie] at H ⊢
    exact sortI_any hr hn hok hN hNb H

set_option maxRecDepth 100000 in
set_option maxHeartbeats 12800000 in
theorem lengths_any {w : World} {v : Value} {n : Nat} {F : List Int} {L : Int} (hr : Rd w 1 v n (nums F)) (hn : n ≤ 1000) :
    Calls Try.prog 60 #[v, .int .i64 L] w (Ret fun r w' => ∃ ov, r = .tuple #[ov, .int .i64 (errF F L)] ∧ Own w w' [slc 3 1 ov (resF F L).length (nums (resF F L))]) := by
  have hFl : Hid (F.length = n) := Lib.hid (by have := hr.len; rw [nums_length] at this; omega)
  obtain ⟨va, vc, rfl, hv1, hv2⟩ := hr.shape
  have HR := Lib.hid hr
  have H := (Own.start w).alloc (.cells #[.slice va n vc] 26)
  obtain ⟨bad, hbad⟩ : ∃ bad, Hid (badArg F L = bad) := ⟨_, rfl⟩
  obtain ⟨er, her⟩ : ∃ er, Hid (errF F L = er) := ⟨_, rfl⟩
  obtain ⟨R, hRes⟩ : ∃ R, Hid (resF F L = R) := ⟨_, rfl⟩
  rw [her.out, hRes.out]
  obtain ⟨RL, hRL⟩ : ∃ RL, Hid (R.length = RL) := ⟨_, rfl⟩
  rw [hRL.out]
  have hC := contains_any (w := w) hr (by omega)
  clear hr
  go_enter Try.func60, Try.ntmps60
  go_upto_region 2 with (fail)
  generalize w.alloc (.cells #[.slice va n vc] 26) = wa at *
  generalize w.heap.size = B at *
  have c0 := H.cells
  have HCON := Lib.hid hC
  clear hC
  go_cut [38] (fun s38 wx => s38 = .bool bad ∧ Own w wx [blk B (.cells #[.slice va n vc] 26)])
  case first =>
    have hbd := hbad.out
    unfold badArg at hbd
    rw [hFl.out] at hbd
    by_cases h1 : L < 1
    · have e : Hid (bad = true) := Lib.hid (by rw [← hbd]; simp [h1])
      clear hbd
      go_wp2_with fail
      go_meet
      exact ⟨by rw [e.out], H⟩
    · by_cases h2 : 15 < L
      · have e : Hid (bad = true) := Lib.hid (by rw [← hbd]; simp [h2])
        clear hbd
        go_wp2_with fail
        go_meet
        exact ⟨by rw [e.out], H⟩
      · by_cases h3 : 320 < n
        · have e : Hid (bad = true) := Lib.hid (by rw [← hbd]; simp [h3])
          have h3I : (320 : Int) < (n : Int) := by omega
          clear hbd
          go_wp2_with fail
          go_meet
          exact ⟨by rw [e.out], H⟩
        · have e : Hid (bad = anyBad F) := Lib.hid (by rw [← hbd]; simp [h1, h2, h3])
          have h3I : ¬ (320 : Int) < (n : Int) := by omega
          have HC2 := Lib.hid (contains_any (HR.out.old H) (by omega))
          clear hbd HCON
          go_wp2_with fail
          refine HC2.out.mono ?_
          rintro e1 w1 ⟨_, rfl, rfl, H1⟩
          have H := H.join H1
          rw [← e.out]
          go_wp2_with fail
          go_meet
          exact ⟨rfl, H⟩
  case rest =>
    clear H c0 HCON
    obtain ⟨rfl, H⟩ := hcut
    cases bad with
    | true =>
      have e1 : Hid (er = 1) := Lib.hid (by rw [← her.out]; unfold errF; rw [hbad.out]; rfl)
      have e2 : Hid (R = []) := Lib.hid (by rw [← hRes.out]; unfold resF; rw [her.out, e1.out]; rfl)
      go_wp2_with fail
      go_ret2
      refine ⟨_, rfl, _, by rw [e1.out]; rfl, ?_⟩
      have e3 := hRL.out
      rw [e2.out] at e3
      subst e3
      rw [e2.out]
      exact (H.nil 3 1).swap.drop
    | false =>
      have hbd := hbad.out
      unfold badArg at hbd
      simp only [Bool.or_eq_false_iff, decide_eq_false_iff_not] at hbd
      obtain ⟨⟨⟨hL1, hL2⟩, hL3⟩, hab⟩ := hbd
      obtain ⟨M, rfl⟩ : ∃ M : Nat, L = M := ⟨L.toNat, by omega⟩
      have hM1 : 1 ≤ M := by omega
      have hM2 : M ≤ 15 := by omega
      have hn3 : n ≤ 320 := by have := hFl.out; omega
      have hFb : Hid (∀ f ∈ F, 0 ≤ f ∧ f ≤ 4294967296) := Lib.hid (fun f hf => by
        unfold anyBad at hab
        rw [List.any_eq_false] at hab
        have := hab f hf
        simp only [badF, decide_eq_true_eq] at this
        omega)
      clear hab hL1 hL2 hL3
      have c0 := H.cells
      have H := H.nil 3 1
      go_wp2_with fail
      clear c0
      go_loopw [7, 41] (fun s7 s41 wx => ∃ k : Nat, s41 = .int .i64 k ∧ k ≤ n ∧ Own w wx [slc 3 1 s7 (usedN F k).length (nums (usedN F k)), blk B (.cells #[.slice va n vc] 26)]) (fun _ s41 _ => n - (intOf s41).toNat)
      case atStart => exact ⟨0, by go_num, by omega, by simpa [usedN, nums] using H⟩
      case round =>
        clear H
        obtain ⟨k, rfl, hk, H⟩ := hrel
        by_cases hlt : k < n
        · obtain ⟨b, o, rfl, c1⟩ := rd_num HR.out H (by have := hFl.out; omega : k < F.length) rfl
          have hu := usedN_length F k
          have hus : usedN F (k + 1) = if 0 < F.getD k 0 then usedN F k ++ [(k : Int)] else usedN F k := rfl
          obtain ⟨x, hx⟩ : ∃ x, Hid (F.getD k 0 = x) := ⟨_, rfl⟩
          rw [hx.out] at c1 hus
          have hkI : (k : Int) < (n : Int) := by omega
          obtain ⟨U, hU⟩ : ∃ U, Hid (usedN F k = U) := ⟨_, rfl⟩
          rw [hU.out] at H hus hu
          by_cases hpos : 0 < x
          · rw [if_pos hpos] at hus
            have HUS := Lib.hid hus
            obtain ⟨q, hq⟩ : ∃ q, Hid (U.length = q) := ⟨_, rfl⟩
            rw [hq.out] at H hu
            clear hus
            go_wp2_with (at_builtin; refine wpList_append_one rfl _ _ rfl Try.underlying26 intInfo rfl (by decide) rfl H (news := [.int .i64 k]) rfl rfl rfl (by simp [Value.oneCell']) (by omega) (by omega) ?_; clear H c1; intro v' w' H)
            go_roundw
            case rel =>
              refine ⟨k + 1, by go_num, by omega, ?_⟩
              rw [HUS.out, List.length_append, hq.out]
              simpa [nums] using H
            case measure => simp [intOf]; omega
          · rw [if_neg hpos] at hus
            have HUS := Lib.hid hus
            clear hus
            go_wp2_with fail
            go_roundw
            case rel => exact ⟨k + 1, by go_num, by omega, by rw [HUS.out]; exact H⟩
            case measure => simp [intOf]; omega
        · obtain rfl : k = n := by omega
          have hkI : ¬ (k : Int) < (k : Int) := by omega
          have hul := usedN_length F k
          have hus : Hid (usedN F k = usedF F) := Lib.hid (by unfold usedF; rw [hFl.out])
          rw [hus.out] at H hul
          obtain ⟨a7, c7, rfl, -⟩ := H.rd.shape
          obtain ⟨N, hN⟩ : ∃ N, Hid ((usedF F).length = N) := ⟨_, rfl⟩
          rw [hN.out] at H hul ⊢
          obtain ⟨p, hp⟩ : ∃ p : Nat, Hid (2 ^ M = p) := ⟨_, rfl⟩
          have hp1 : p ≤ 32768 := by
            rw [← hp.out]
            have : 2 ^ M ≤ 2 ^ 15 := Nat.pow_le_pow_right (by omega) hM2
            omega
          have hpw : wrap64 ((2 : Int) ^ M) = (p : Int) := by
            have e : (2 : Int) ^ M = (p : Int) := by rw [← hp.out]; simp
            rw [e]
            exact IntWalk.wrap64_in _ ⟨by omega, by omega⟩
          have herr : Hid (er = if p < N then 3 else 0) := Lib.hid (by
            rw [← her.out]; unfold errF
            rw [hbad.out, if_neg (by simp), Int.toNat_natCast, hp.out, hN.out])
          by_cases hfull : p < N
          · have e1 : Hid (er = 3) := Lib.hid (by rw [herr.out, if_pos hfull])
            have e2 : Hid (R = []) := Lib.hid (by rw [← hRes.out]; unfold resF; rw [her.out, e1.out]; rfl)
            have hfI : (p : Int) < (N : Int) := by omega
            go_wp2_with fail
            go_ret2
            refine ⟨_, rfl, _, by rw [e1.out]; rfl, ?_⟩
            have e3 := hRL.out
            rw [e2.out] at e3
            subst e3
            rw [e2.out]
            exact (H.bare.nil 3 1)
          · have e1 : Hid (er = 0) := Lib.hid (by rw [herr.out, if_neg hfull])
            have e2 : Hid (lengthsF F M = R) := Lib.hid (by rw [← hRes.out]; unfold resF; rw [her.out, e1.out]; rfl)
            have hfI : ¬ (p : Int) < (N : Int) := by omega
            have hS := sort_syms HR.out (by omega) (fun x hx => by
              obtain ⟨s, rfl, h1, _⟩ := (usedN_mem F _ x).1 hx
              exact ⟨by omega, by omega⟩) hN.out.symm (by omega) H
            have esym : sortF (frq F) (usedF F) = symsF F := rfl
            rw [esym] at hS
            have hsl : Hid ((symsF F).length = N) := Lib.hid (by rw [syms_length]; exact hN.out)
            have HS := Lib.hid hS
            clear hS esym herr
            go_wp2_with fail
            refine HS.out.mono ?_
            rintro e w1 ⟨_, rfl, H1⟩
            clear H HS
            have c0 := (H1.front 1 rfl).cells
            have hmk : ∀ w : World, (Instr.makeSlice 26 (.int .i64 k) (.int .i64 k)).run Try.prog w = .ok (.slice (some ⟨w.heap.size, 0, none⟩) k k) (w.alloc (.cells (madeCells #[.int .i64 0] k) 3)) := run_make_row' _ _ _ 8 Try.underlying26 intInfo rfl .i64 .i64 k (by omega) (by omega)
            go_upto_region 15 with (fail)
            clear c0 hmk
            have H := (H1.alloc (.cells (madeCells #[.int .i64 0] k) 3)).slc_mk (xs := nums (zerosF k)) (n := k) (size := 1) (by simp [nums, zerosF]) (Nat.le_refl _) (by simp [maxLen]; omega) (by simp [size_madeCells]) (by rw [toList_madeCells_one]; simp [nums, zerosF])
            clear H1
            generalize w1.alloc (.cells (madeCells #[.int .i64 0] k) 3) = wb at *
            generalize w1.heap.size = og at *
            have hz : Hid (∀ s, (zerosF k).getD s 0 = 0) := Lib.hid (fun s => by
              unfold zerosF
              rw [List.getD_eq_getElem?_getD, List.getElem?_replicate]
              split <;> rfl)
            have hzl : Hid ((zerosF k).length = k) := Lib.hid (by simp [zerosF])
            have hin : Hid (∀ x ∈ symsF F, ∃ s : Nat, x = s ∧ s < k) := Lib.hid (fun x hx => by
              obtain ⟨s, rfl, h1, _⟩ := (syms_mem F x).1 hx
              exact ⟨s, rfl, by have := hFl.out; omega⟩)
            have hRl : k = RL := by rw [← hRL.out, ← e2.out, lengthsF_length]; exact hFl.out.symm
            subst hRl
            by_cases h2 : N < 2
            · have hN2 : (N : Int) < 2 := by omega
              have eR : Hid (bumpF (zerosF k) ((symsF F).take N) = R) := Lib.hid (by
                rw [List.take_of_length_le (by rw [hsl.out]; exact Nat.le_refl _), ← e2.out]
                unfold lengthsF
                rw [if_pos (by rw [hsl.out]; exact h2), hFl.out])
              go_wp2_with fail
              go_loopw [69] (fun s69 wx => ∃ j : Nat, s69 = .int .i64 j ∧ j ≤ N ∧ Own w wx [slc 3 1 (.slice (some ⟨og, 0, none⟩) k k) k (nums (bumpF (zerosF k) ((symsF F).take j))), slc 3 1 (.slice a7 N c7) N (nums (symsF F)), blk B (.cells #[.slice va k vc] 26)]) (fun s69 _ => N - (intOf s69).toNat)
              case atStart => exact ⟨0, by go_num, by omega, by simpa [bumpF] using H⟩
              case round =>
                clear H
                obtain ⟨j, rfl, hj, H⟩ := hrel
                by_cases hlt : j < N
                · obtain rfl : j = 0 := by omega
                  obtain ⟨x, hx⟩ := get_of_lt (l := symsF F) (k := 0) (by have := hsl.out; omega)
                  obtain ⟨z, rfl, hz2⟩ := hin.out x (List.mem_of_getElem? hx)
                  have hst : (nums (bumpF (zerosF k) ((symsF F).take 0))).set z (.int .i64 1) = nums (bumpF (zerosF k) ((symsF F).take (0 + 1))) := by
                    rw [nums_set, bump_take hx]
                    unfold bump1
                    rw [show (bumpF (zerosF k) ((symsF F).take 0)) = zerosF k from rfl, hz.out]
                    rfl
                  have HST := Lib.hid hst
                  obtain ⟨b7, o7, c7', he, -⟩ := (H.front 1 rfl).rd.some (by rw [nums_length, hsl.out]; omega)
                  cases he
                  have c2 := (H.front 1 rfl).rd.cell (nums_get hx)
                  rw [Nat.add_zero] at c2
                  have hjI : (0 : Int) < (N : Int) := by omega
                  have hzI : (z : Int) < (k : Int) := by omega
                  clear hst hx
                  go_wp2_with (refine wpList_store_slc rfl _ _ rfl rfl H (.int .i64 1) rfl (by kernel_rfl) (by omega) rfl ?_; clear H c2; intro w2 H; rw [HST.out] at H)
                  go_roundw
                  case rel => exact ⟨0 + 1, by go_num, by omega, H⟩
                  case measure => simp [intOf]; omega
                · obtain rfl : j = N := by omega
                  have hjI : ¬ (j : Int) < (j : Int) := by omega
                  rw [eR.out] at H
                  go_wp2_with fail
                  go_ret2
                  refine ⟨_, rfl, _, by rw [e1.out]; rfl, ?_⟩
                  exact ((((H.front 2 rfl).front 2 rfl).drop.drop))
            · have h3 : 2 ≤ N := by omega
              have hN2 : ¬ (N : Int) < 2 := by omega
              obtain ⟨sg, sc, he, -⟩ := (H.front 1 rfl).at (by rw [nums_length, hsl.out]; omega)
              cases he
              go_upto_if 66 with (fail)
              go_cut [] (fun wx => Own w wx [slc 3 1 (.slice (some ⟨og, 0, none⟩) k k) k (nums (zerosF k)), slc 3 1 (.slice (some ⟨sg, 0, none⟩) N c7) N (nums (symsF F)), blk B (.cells #[.slice va k vc] 26)])
              case first =>
                go_wp2_with fail
                go_meet
                exact H
              case rest =>
                clear H
                apply_assumption
                refine len_tail22 (n := k) (F := F) (syms := symsF F) (base := baseF F) (o := zerosF k) (Lib.hid (base_law F)) (Lib.hid rfl) (Lib.hid (by rw [base_length]; exact hsl.out)) h3 (by omega) hM1 hM2 hn3 hzl hz hsl (Lib.hid (syms_nodup F)) hin (Lib.hid (by have := hp.out; omega)) e1.out (Lib.hid ?_) HR (Lib.hid ?_) _ _ _ _ _ _ _ _ _ _ _ _ _ _ _ _ _ _ _ _ _ _ _ _ _ _ _ _ _ _ _ _ _ _ _ _ _ _ _ _ _ _ _ _ _ _ _ _ _ _ _ _ _ _ _ _ _ _ _ _ _ _ _ _ _ _ _ _ _ _ _ _ _ _ _ _ _ _ _ _ _ _ _ _ _ _ _ _ _ _ _ _ _ _ _ _ _ _ _ _ _ _ _ _ _ _ _ _ _ _ _ _ _ _ _ _ _ _ _ _ _ _ _ _ _ _ _ _ _ _ _ _ _ _ _ _ _ _ _ _ _ _ _ _ _ hcut
                · rw [← e2.out]
                  unfold lengthsF
                  rw [if_neg (by rw [hsl.out]; omega), hsl.out, hFl.out]
                · intro c hc
                  obtain ⟨s, hs, rfl⟩ := List.mem_map.1 hc
                  obtain ⟨m, rfl, hm, _⟩ := (syms_mem F s).1 hs
                  show F.getD (Int.toNat m) 0 ≤ _
                  rw [Int.toNat_natCast, List.getD_eq_getElem?_getD, List.getElem?_eq_getElem hm]
                  exact (hFb.out _ (List.getElem_mem _)).2
end Go.Proofs.Yteoecchggjmffaa
/- flate: the walk of rich: its parts. -/
namespace Go.Proofs.Yteoecchggjmffaa
open Go.RowKit

theorem Own.trimmed {w0 w : World} {ps : List Piece} {g n c : Nat} {F : List Int} (least : Nat) (h : Own w0 w (slc 3 1 (.slice (some ⟨g, 0, none⟩) n c) n (nums F) :: ps)) (hF : F.length = n) :
    Own w0 w (slc 3 1 (.slice (some ⟨g, 0, none⟩) (trimF F least).length c) (trimF F least).length (nums (trimF F least)) :: ps) := by
  have hk := trimK_le' F least n
  have h1 := h.slc_take hk
  have e : (nums F).take (trimK F least n * 1) = nums (trimF F least) := by
    unfold trimF nums
    rw [Nat.mul_one, List.map_take, hF]
  rw [e] at h1
  rw [trimF_len, hF]
  exact h1
theorem trim_own {w0 w : World} {ps : List Piece} {g n c : Nat} {F : List Int} (least : Nat) (h : Own w0 w (slc 3 1 (.slice (some ⟨g, 0, none⟩) n c) n (nums F) :: ps)) (hF : F.length = n) (hn : n ≤ 1000000) (hl : least ≤ 1000000) :
    Calls Try.prog 61 #[.slice (some ⟨g, 0, none⟩) n c, .int .i64 least] w (Ret fun r w' => r = .slice (some ⟨g, 0, none⟩) (trimF F least).length c ∧ Own w0 w' (slc 3 1 (.slice (some ⟨g, 0, none⟩) (trimF F least).length c) (trimF F least).length (nums (trimF F least)) :: ps)) := by
  refine (trim_any least h.rd hn hl).mono ?_
  rintro e w' ⟨v, rfl, rfl, h1⟩
  exact ⟨_, rfl, by rw [trimF_len, hF], (h.join h1).trimmed least hF⟩
/-- 'a[i]' of an array of ints by value. -/
theorem run_index_arr {P : Program} (t e : TypeId) (n : Nat) (cs : Array Value) (i : Nat) (v : Int) (w : World) (h : P.underlying t = some (.array n e)) (hsz : ∀ w, (sizeOf e).run P w = .ok 1 w) (hag : ∀ w, (isAgg e).run P w = .ok false w) (hi : i < n) (hv : cs[i]? = some (.int .i64 v)) :
    (Instr.index t (.agg cs) (.int .i64 i)).run P w = .ok (.int .i64 v) w := by
  have hn : (0 : Int) ≤ (i : Int) ∧ (i : Int) < (n : Int) := by omega
  simp [Instr.index, run_underlying h, asIntOf, hn, go_sem]
  rw [if_pos hi]
  simp [hsz, hag, hv, Result.andThen]
theorem int_one (w : World) : (sizeOf 3).run Try.prog w = .ok 1 w ∧ (isAgg 3).run Try.prog w = .ok false w := by
  constructor <;> go_simp
theorem order_any (w : World) : Calls Try.prog 63 #[] w (Ret fun r w' => r = .agg (nums (ordF.map Int.ofNat)).toArray ∧ Own w w' []) := by
  have H := (Own.start w).alloc (.cells #[.int .i64 0, .int .i64 0, .int .i64 0, .int .i64 0, .int .i64 0, .int .i64 0, .int .i64 0, .int .i64 0, .int .i64 0, .int .i64 0, .int .i64 0, .int .i64 0, .int .i64 0, .int .i64 0, .int .i64 0, .int .i64 0, .int .i64 0, .int .i64 0, .int .i64 0] 86)
  go_enter Try.func63, Try.ntmps63
  go_upto_region 1 with (fail)
  generalize w.alloc _ = w1 at *
  generalize w.heap.size = g at *
  go_wp2_with (refine wpList_store_agg (vs := nums (ordF.map Int.ofNat)) (cur' := (nums (ordF.map Int.ofNat)).toArray) rfl _ _ rfl rfl H rfl (by kernel_rfl) (by simp [nums, ordF]) (by simp [nums, ordF, Value.oneCell']) rfl ?_; clear H; intro w5 H)
  refine bodyPost_ret (results_cell1 rfl _ _ g _ rfl (run_loadVar_row w5 g _ _ _ _ _ H.block.1 Try.underlying86 rfl (by kernel_rfl))) rfl ?_
  exact ⟨_, rfl, rfl, H.bare⟩

theorem made_freq (rs : List Run) (k : Nat) (r : Run) (h : rs[k]? = some r) : runFq (rs.take (k + 1)) = bump1 (runFq (rs.take k)) r.sym := by
  unfold runFq
  rw [List.take_add_one, h, List.map_append]
  exact bumpF_snoc _ _ _
theorem runB_succ {ls : List Int} {rs : List Run} {k : Nat} {r : Run} (h : rs[k]? = some r) : runsB ls (rs.take (k + 1)) = runsB ls (rs.take k) ++ runB ls r := by
  unfold runsB
  rw [List.take_add_one, h, List.flatMap_append]
  simp
theorem lensB_succ {l : List Int} {k : Nat} (h : k < l.length) : lensB (l.take (k + 1)) = lensB (l.take k) ++ bitsOf (l.getD k 0) 3 := by
  unfold lensB
  rw [List.take_add_one, getD_get h, List.flatMap_append]
  simp
theorem run_cells {w : World} {b o c i n : Nat} {l : List Run} {r : Run} (h : Rd w 3 (.slice (some ⟨b, o, none⟩) n c) n (rows rcell l)) (ht : l[i]? = some r) :
    w.cell? ⟨b, o + i * 3, none⟩ = some (.int .i64 r.sym) ∧ w.cell? ⟨b, o + i * 3 + 1, none⟩ = some (.int .i64 r.n) ∧ w.cell? ⟨b, o + i * 3 + 2, none⟩ = some (.int .i64 r.v) := by
  have h0 := h.cell ((rows_get rcell rcell_length ht 0 (by omega)).trans rfl)
  have h1 := h.cell ((rows_get rcell rcell_length ht 1 (by omega)).trans rfl)
  have h2 := h.cell ((rows_get rcell rcell_length ht 2 (by omega)).trans rfl)
  exact ⟨h0, h1, h2⟩
end Go.Proofs.Yteoecchggjmffaa
/- flate: the walk of rich. -/
namespace Go.Proofs.Yteoecchggjmffaa
open Go.RowKit

set_option maxRecDepth 100000 in
set_option maxHeartbeats 25600000 in
theorem rich_any {w0 w : World} {ps : List Piece} {g : Nat} {bs : List Bool} {tv : Value} {l : List Tok} (last : Bool) (ht : Reads w0 ps 3 tv l.length (rows tcell l)) (hs : ∀ t ∈ l, TokOk t) (hln : l.length ≤ 1000000) (H : Own w0 w (Wtr g bs :: ps)) (hl : bs.length + 48 * l.length ≤ 35184372000000) :
    Calls Try.prog 47 #[.pointer (some ⟨g, 0, none⟩), tv, .bool last] w (Ret fun _ w' => Own w0 w' (Wtr g (bs ++ blockB l 2 last) :: ps)) := by
  obtain ⟨ta, tc, rfl, ht1, ht2⟩ := (ht w H.drop).shape
  obtain ⟨L, hL⟩ : ∃ L, Hid (richL l = L) := ⟨_, Lib.hid rfl⟩
  obtain ⟨D, hD⟩ : ∃ D, Hid (richD l = D) := ⟨_, Lib.hid rfl⟩
  obtain ⟨RS, hRS⟩ : ∃ RS, Hid (richR l = RS) := ⟨_, Lib.hid rfl⟩
  obtain ⟨RL, hRL⟩ : ∃ RL, Hid (runL RS = RL) := ⟨_, Lib.hid rfl⟩
  obtain ⟨SO, hSO⟩ : ∃ SO, Hid (sortedF RL = SO) := ⟨_, Lib.hid rfl⟩
  have mL := richL_made hs hln
  have mD := richD_made hs hln
  have okR := richR_ok hs hln
  have lenR := richR_len hs hln
  have oks : ∀ t ∈ l, SymOk (richL l) (richD l) t := fun t h => rich_sym hs hln h
  have oL := lit_ok hs hln
  have oD := dist_ok hs hln
  have hB : Hid (bs ++ blockB l 2 last = bs ++ headB last 2 ++ (sizesB L.length D.length SO.length ++ (lensB SO ++ (runsB RL RS ++ bodyB L D l)))) := Lib.hid (by
    unfold blockB richB
    rw [if_neg (by omega), hRS.out, hRL.out, hSO.out, hL.out, hD.out, List.append_assoc])
  rw [hB.out]
  rw [hRS.out] at okR lenR
  have mR := runL_made okR (by omega)
  have m7 := sorted_7 okR (by omega)
  have mS := sorted_len RL
  have oR := run_ok okR (by omega)
  rw [hL.out] at mL oks
  rw [hD.out] at mD oks
  rw [hRL.out] at mR m7
  rw [hSO.out] at m7 mS
  obtain ⟨N, hN⟩ : ∃ N, Hid (l.length = N) := ⟨_, Lib.hid rfl⟩
  have HS := Lib.hid hs
  have HT := Lib.hid ht
  have ML := Lib.hid mL
  have MD := Lib.hid mD
  have MR := Lib.hid mR
  have M7 := Lib.hid m7
  have OKR := Lib.hid okR
  have OKS := Lib.hid oks
  have OL := Lib.hid oL
  have OD := Lib.hid oD
  have OR := Lib.hid oR
  obtain ⟨hS1, hS2⟩ := mS
  have k0 := fun w1 h => counted2_any (ht w1 h) hs hln
  rw [hN.out] at HT ht1 hl hln k0 ⊢
  have K0 := Lib.hid k0
  clear hs ht mL mD okR oks oL oD mR m7 oR k0
  go_enter Try.func47, Try.ntmps47
  go_wp2_with fail
  refine (K0.out _ H.drop).mono ?_
  rintro e w1 ⟨_, rfl, v1, u1, rfl, J⟩
  replace H := H.join J
  clear J
  obtain ⟨a1, c1, rfl, -⟩ := H.rd.shape
  obtain ⟨a2, c2, rfl, -⟩ := (H.front 1 rfl).rd.shape
  have kl := lengths_any (L := 15) H.rd (by omega)
  have hel : errF (litFq l) 15 = 0 := errF_ok (by omega) (by rw [litFq_len]; omega) OL.out.freq (by rw [litFq_len]; decide)
  have hed : errF (distFq l) 15 = 0 := errF_ok (by omega) (by rw [distFq_len]; omega) OD.out.freq (by rw [distFq_len]; decide)
  rw [hel] at kl
  have KL := Lib.hid kl
  clear kl hel
  go_wp2_with fail
  refine KL.out.mono ?_
  rintro e w2 ⟨_, rfl, v3, rfl, J⟩
  replace H := H.join J
  clear J KL
  have kd := lengths_any (L := 15) (H.front 2 rfl).rd (by omega)
  rw [hed] at kd
  have KD := Lib.hid kd
  clear kd hed
  rw [OL.out.len, litFq_len] at H
  obtain ⟨g3, c3, rfl, -⟩ := H.at (by rw [nums_length, OL.out.len, litFq_len]; omega)
  go_wp2_with fail
  refine KD.out.mono ?_
  rintro e w3 ⟨_, rfl, v4, rfl, J⟩
  replace H := H.join J
  clear J KD
  rw [OD.out.len, distFq_len] at H
  obtain ⟨g4, c4, rfl, -⟩ := H.at (by rw [nums_length, OD.out.len, distFq_len]; omega)
  have H : Own w0 w3 (slc 3 1 (.slice (some ⟨g3, 0, none⟩) 286 c3) 286 (nums (resF (litFq l) 15)) :: slc 3 1 (.slice (some ⟨g4, 0, none⟩) 30 c4) 30 (nums (resF (distFq l) 15)) :: Wtr g bs :: ps) := ((((H.front 1 rfl).front 3 rfl).front 3 rfl).drop.drop)
  have kt := fun w1 (h : Own w0 w1 (slc 3 1 (.slice (some ⟨g3, 0, none⟩) 286 c3) 286 (nums (resF (litFq l) 15)) :: slc 3 1 (.slice (some ⟨g4, 0, none⟩) 30 c4) 30 (nums (resF (distFq l) 15)) :: Wtr g bs :: ps)) => trim_own 257 h (by rw [OL.out.len, litFq_len]) (by omega) (by omega)
  have kt2 := fun w1 (qs : List Piece) (h : Own w0 w1 (slc 3 1 (.slice (some ⟨g4, 0, none⟩) 30 c4) 30 (nums (resF (distFq l) 15)) :: qs)) => trim_own 1 h (by rw [OD.out.len, distFq_len]) (by omega) (by omega)
  rw [show trimF (resF (litFq l) 15) 257 = L from hL.out] at kt
  have hD2 : trimF (resF (distFq l) 15) 1 = D := hD.out
  simp only [hD2] at kt2
  have KT := Lib.hid kt
  have KT2 := Lib.hid kt2
  clear kt kt2 hD2
  go_wp2_with fail
  refine (KT.out _ H).mono ?_
  rintro e w4 ⟨_, rfl, rfl, H4⟩
  clear H
  go_wp2_with fail
  refine (KT2.out _ _ H4.swap).mono ?_
  rintro e w5 ⟨_, rfl, rfl, H⟩
  clear H4 KT KT2
  obtain ⟨nL, hnL⟩ : ∃ n, Hid (L.length = n) := ⟨_, Lib.hid rfl⟩
  obtain ⟨nD, hnD⟩ : ∃ n, Hid (D.length = n) := ⟨_, Lib.hid rfl⟩
  have hnL1 := ML.out.lo
  have hnL2 := ML.out.hi
  have hnD1 := MD.out.lo
  have hnD2 := MD.out.hi
  rw [hnL.out] at H hnL1 hnL2 ⊢
  rw [hnD.out] at H hnD1 hnD2 ⊢
  go_wp2_with fail
  have H5 := H.alloc (.cells #[.slice (some ⟨g3, 0, none⟩) nL c3, .slice (some ⟨g4, 0, none⟩) nD c4] 26)
  have hrow : Rd (w5.alloc (.cells #[.slice (some ⟨g3, 0, none⟩) nL c3, .slice (some ⟨g4, 0, none⟩) nD c4] 26)) 1 (.slice (some ⟨w5.heap.size, 0, none⟩) 2 2) 2 [.slice (some ⟨g3, 0, none⟩) nL c3, .slice (some ⟨g4, 0, none⟩) nD c4] := by
    refine ⟨rfl, _, _, rfl, Nat.le_refl _, by decide, by simp, fun ad had j u hu => ?_⟩
    obtain rfl := Option.some.inj had
    rw [Addr.add_lit, Nat.zero_add, H5.cell]
    simpa using hu
  have hcc := concat_any [L, D] [.slice (some ⟨g3, 0, none⟩) nL c3, .slice (some ⟨g4, 0, none⟩) nD c4] hrow rfl rfl (by omega) (fun k u X hu hX => by
    match k with
    | 0 => cases hu; cases hX; rw [hnL.out]; exact (H5.front 2 rfl).rd
    | 1 => cases hu; cases hX; rw [hnD.out]; exact (H5.front 1 rfl).rd
    | k + 2 => cases hu) (by simp [hnL.out, hnD.out]; omega)
  have hfl : [L, D].flatten = L ++ D := by simp
  have hfll : (L ++ D).length = nL + nD := by rw [List.length_append, hnL.out, hnD.out]
  rw [hfl, hfll] at hcc
  have HCC := Lib.hid hcc
  have H6 : Own w0 (w5.alloc (.cells #[.slice (some ⟨g3, 0, none⟩) nL c3, .slice (some ⟨g4, 0, none⟩) nD c4] 26)) (slc 3 1 (.slice (some ⟨g3, 0, none⟩) nL c3) nL (nums L) :: slc 3 1 (.slice (some ⟨g4, 0, none⟩) nD c4) nD (nums D) :: Wtr g bs :: ps) := (H5.drop).swap
  clear hcc hrow H5 H hfl hfll
  generalize w5.alloc _ = w6 at *
  generalize w5.heap.size = gr at *
  refine HCC.out.mono ?_
  rintro e w7 ⟨v7, rfl, J⟩
  have H := H6.join J
  clear J HCC H6
  have hrn := runs_any H.rd (by omega)
  rw [show runsF (L ++ D) = RS by rw [← hRS.out, ← hL.out, ← hD.out]; rfl] at hrn
  have HRN := Lib.hid hrn
  clear hrn
  obtain ⟨a7, c7, rfl, -⟩ := H.rd.shape
  obtain ⟨nR, hnR⟩ : ∃ n, Hid (RS.length = n) := ⟨_, Lib.hid rfl⟩
  rw [hnR.out] at HRN lenR
  go_wp2_with fail
  refine HRN.out.mono ?_
  rintro e w8 ⟨v8, rfl, J⟩
  have H8 := H.join J
  clear J HRN H
  obtain ⟨a8, c8, rfl, -⟩ := H8.rd.shape
  have H : Own w0 w8 (slc 85 3 (.slice a8 nR c8) nR (rows rcell RS) :: slc 3 1 (.slice (some ⟨g3, 0, none⟩) nL c3) nL (nums L) :: slc 3 1 (.slice (some ⟨g4, 0, none⟩) nD c4) nD (nums D) :: Wtr g bs :: ps) := ((H8.front 1 rfl).drop)
  clear H8
  have hmk : ∀ w : World, (Instr.makeSlice 26 (.int .i64 19) (.int .i64 19)).run Try.prog w = .ok (.slice (some ⟨w.heap.size, 0, none⟩) 19 19) (w.alloc (.cells (madeCells #[.int .i64 0] 19) 3)) := run_make_row' _ _ _ 8 Try.underlying26 intInfo rfl .i64 .i64 19 (by omega) (by omega)
  go_upto_region 6 with (fail)
  have h9 := (H.alloc (.cells (madeCells #[.int .i64 0] 19) 3)).slc_mk (xs := nums (runFq (RS.take 0))) (n := 19) (size := 1) (by rw [nums_length, runFq_len]) (Nat.le_refl _) (by simp [maxLen]) (by simp [size_madeCells]) (by rw [toList_madeCells_one]; rfl)
  clear H hmk
  generalize w8.alloc _ = w9 at *
  generalize w8.heap.size = gf at *
  have H := h9
  clear h9
  go_wp2_with fail
  go_loopw [53] (fun s53 wx => ∃ k : Nat, s53 = .int .i64 k ∧ k ≤ nR ∧ Own w0 wx (slc 3 1 (.slice (some ⟨gf, 0, none⟩) 19 19) 19 (nums (runFq (RS.take k))) :: slc 85 3 (.slice a8 nR c8) nR (rows rcell RS) :: slc 3 1 (.slice (some ⟨g3, 0, none⟩) nL c3) nL (nums L) :: slc 3 1 (.slice (some ⟨g4, 0, none⟩) nD c4) nD (nums D) :: Wtr g bs :: ps)) (fun s53 _ => nR - (intOf s53).toNat)
  case atStart => exact ⟨0, by go_num, by omega, H⟩
  case round =>
    clear H
    obtain ⟨k, rfl, hk, H⟩ := hrel
    by_cases hlt : k < nR
    · have hI : (k : Int) < (nR : Int) := by omega
      obtain ⟨t, htk⟩ := get_of_lt (l := RS) (k := k) (by rw [hnR.out]; exact hlt)
      have hok := OKR.out t (List.mem_of_getElem? htk)
      have hls := made_freq RS k t htk
      obtain ⟨b, o, _, he2, -⟩ := (H.front 1 rfl).rd.some (by rw [rows_length rcell rcell_length, hnR.out]; omega)
      cases he2
      obtain ⟨c0, cc1, cc2⟩ := run_cells (H.front 1 rfl).rd htk
      have hkl : Hid (∀ j, 0 ≤ (runFq (RS.take k)).getD j 0 ∧ (runFq (RS.take k)).getD j 0 ≤ 100000) := Lib.hid (fun j => by
        rw [runFq_get (fun r h => OKR.out r (List.mem_of_mem_take h))]
        have := List.countP_le_length (p := fun x : Int => decide (x = (j : Int))) (l := (RS.take k).map Run.sym)
        rw [List.length_map, List.length_take] at this
        omega)
      have hfl := runFq_len (RS.take k)
      obtain ⟨hsy, -, -⟩ := hok
      obtain ⟨x, y, z⟩ := t
      simp only at c0 cc1 cc2 hsy hls
      obtain ⟨s, rfl⟩ : ∃ s : Nat, x = s := ⟨x.toNat, by omega⟩
      have hst := nums_bump (runFq (RS.take k)) s
      rw [← hls] at hst
      have cf := H.getc (nums_get (getD_get (F := runFq (RS.take k)) (i := s) (by omega)))
      have hb := hkl.out s
      obtain ⟨v, hv⟩ : ∃ v, (runFq (RS.take k)).getD s 0 = v := ⟨_, rfl⟩
      rw [hv] at hb cf hst
      have hw : IntKind.i64.wrap (v + 1) = v + 1 := IntWalk.i64_in _ ⟨by omega, by omega⟩
      have hsI : (s : Int) < 19 := by omega
      have HST := Lib.hid hst
      have hs19 : s < 19 := by omega
      have CF := Lib.hid (show (nums (runFq (RS.take k)))[s]? = some (.int .i64 v) by rw [← hv]; exact nums_get (getD_get (by omega)))
      clear htk hls hkl hfl hv hst cf
      go_upto_region 9 with (refine wpList_store_agg (vs := [.int .i64 s, .int .i64 y, .int .i64 z]) rfl _ _ rfl rfl (H.alloc _) rfl (by kernel_rfl) (by simp) (by simp; exact ⟨rfl, rfl, rfl⟩) rfl ?_; clear c0 cc1 cc2; intro w10 H10)
      clear H
      generalize wr.heap.size = tb at *
      have c0 := H10.cells
      have cf := (H10.front 1 rfl).getc CF.out
      go_wp2_with (refine wpList_store_slc rfl _ _ rfl rfl (H10.front 1 rfl) (.int .i64 (v + 1)) rfl (by kernel_rfl) hs19 rfl ?_; clear H10 c0 cf; intro w11 H; rw [HST.out] at H)
      go_roundw
      case rel => exact ⟨k + 1, by go_num, by omega, H.swap.drop⟩
      case measure => simp [intOf]; omega
    · obtain rfl : k = nR := by omega
      have hI : ¬ (k : Int) < (k : Int) := by omega
      have htk : RS.take k = RS := List.take_of_length_le (by rw [hnR.out]; exact Nat.le_refl _)
      rw [htk] at H
      have kl := lengths_any (L := 7) H.rd (by omega)
      have hel : errF (runFq RS) 7 = 0 := errF_ok (by omega) (by rw [runFq_len]; omega) OR.out.freq (by rw [runFq_len]; decide)
      have hrl : resF (runFq RS) 7 = RL := hRL.out
      have hrll : RL.length = 19 := by have := MR.out.lo; have := MR.out.hi; omega
      rw [hel, hrl, hrll] at kl
      have KL := Lib.hid kl
      have HRLL := Lib.hid hrll
      clear kl hel hrl htk hrll
      go_wp2_with fail
      refine KL.out.mono ?_
      rintro e w12 ⟨_, rfl, v5, rfl, J⟩
      replace H := H.join J
      clear J KL
      obtain ⟨g5, c5, rfl, -⟩ := H.at (by rw [nums_length, HRLL.out]; omega)
      have H : Own w0 w12 (slc 3 1 (.slice (some ⟨g5, 0, none⟩) 19 c5) 19 (nums RL) :: slc 85 3 (.slice a8 k c8) k (rows rcell RS) :: slc 3 1 (.slice (some ⟨g3, 0, none⟩) nL c3) nL (nums L) :: slc 3 1 (.slice (some ⟨g4, 0, none⟩) nD c4) nD (nums D) :: Wtr g bs :: ps) := ((H.front 1 rfl).drop)
      go_wp2_with fail
      refine (order_any _).mono ?_
      rintro e w13 ⟨_, rfl, rfl, J⟩
      have H : Own w0 w13 (slc 3 1 (.slice (some ⟨g5, 0, none⟩) 19 c5) 19 (nums RL) :: slc 85 3 (.slice a8 k c8) k (rows rcell RS) :: slc 3 1 (.slice (some ⟨g3, 0, none⟩) nL c3) nL (nums L) :: slc 3 1 (.slice (some ⟨g4, 0, none⟩) nD c4) nD (nums D) :: Wtr g bs :: ps) := H.join J
      clear J
      have hord : Hid (∀ j, j < 19 → (nums (ordF.map Int.ofNat)).toArray[j]? = some (.int .i64 ((ordF.getD j 0 : Nat) : Int)) ∧ ordF.getD j 0 < 19) := Lib.hid (fun j hj => by
        have := (show ∀ j : Fin 19, ordF.getD j.1 0 < 19 ∧ (ordF.map Int.ofNat)[j.1]? = some ((ordF.getD j.1 0 : Nat) : Int) by decide) ⟨j, hj⟩
        refine ⟨?_, this.1⟩
        rw [List.getElem?_toArray]
        exact nums_get this.2)
      have hordl : Hid ((nums (ordF.map Int.ofNat)).toArray.size = 19) := Lib.hid rfl
      generalize (nums (ordF.map Int.ofNat)).toArray = OA at *
      replace H := H.nil 3 1
      go_wp2_with fail
      obtain ⟨MO, hMO0⟩ : ∃ MO, Hid ((ordF.map fun s => RL.getD s 0) = MO) := ⟨_, Lib.hid rfl⟩
      have hMO : Hid (MO.length = 19) := Lib.hid (by rw [← hMO0.out, List.length_map]; rfl)
      have hMg : Hid (∀ j, j < 19 → MO.getD j 0 = RL.getD (ordF.getD j 0) 0) := Lib.hid (fun j hj => by
        rw [← hMO0.out, List.getD_eq_getElem?_getD, List.getElem?_map, List.getD_eq_getElem?_getD (l := ordF)]
        rw [List.getElem?_eq_getElem (show j < ordF.length from hj)]
        rfl)
      have hSO2 : Hid (trimF MO 4 = SO) := Lib.hid (by rw [← hMO0.out]; exact hSO.out)
      go_loopw [18, 71] (fun s18 s71 wx => ∃ i : Nat, s71 = .int .i64 i ∧ i ≤ 19 ∧ Own w0 wx (slc 3 1 s18 i (nums (MO.take i)) :: slc 3 1 (.slice (some ⟨g5, 0, none⟩) 19 c5) 19 (nums RL) :: slc 85 3 (.slice a8 k c8) k (rows rcell RS) :: slc 3 1 (.slice (some ⟨g3, 0, none⟩) nL c3) nL (nums L) :: slc 3 1 (.slice (some ⟨g4, 0, none⟩) nD c4) nD (nums D) :: Wtr g bs :: ps)) (fun _ s71 _ => 19 - (intOf s71).toNat)
      case atStart => exact ⟨0, by go_num, by omega, H⟩
      case round =>
        clear H
        obtain ⟨i, rfl, hi, H⟩ := hrel
        obtain ⟨a9, c9, rfl, -⟩ := H.rd.shape
        by_cases hi19 : i < 19
        · have hiI : (i : Int) < 19 := by omega
          obtain ⟨ho1, ho2⟩ := hord.out i hi19
          have hmg := hMg.out i hi19
          have hsn : Hid (nums (MO.take i) ++ [.int .i64 (MO.getD i 0)] = nums (MO.take (i + 1))) := Lib.hid (by
            rw [List.take_add_one, getD_get (by rw [hMO.out]; exact hi19)]; simp [nums])
          have cr := (H.front 1 rfl).getc (nums_get (getD_get (F := RL) (i := ordF.getD i 0) (by rw [HRLL.out]; exact ho2)))
          rw [← hmg] at cr
          have hix : ∀ w, (Instr.index 86 (.agg OA) (.int .i64 i)).run Try.prog w = .ok (.int .i64 ((ordF.getD i 0 : Nat) : Int)) w := fun w => run_index_arr _ _ 19 OA i _ w Try.underlying86 (fun w => (int_one w).1) (fun w => (int_one w).2) hi19 ho1
          have ho2I : ((ordF.getD i 0 : Nat) : Int) < 19 := by omega
          obtain ⟨oj, hoj⟩ : ∃ oj, ordF.getD i 0 = oj := ⟨_, rfl⟩
          obtain ⟨mv, hmv⟩ : ∃ mv, MO.getD i 0 = mv := ⟨_, rfl⟩
          rw [hoj] at ho1 ho2 ho2I cr hix
          rw [hmv] at hsn cr
          clear hoj hmv
          clear hmg
          go_wp2_with (at_builtin; refine wpList_append_one rfl _ _ rfl Try.underlying26 intInfo rfl (by decide) rfl H (news := [.int .i64 mv]) rfl rfl rfl (by simp [Value.oneCell']) (by omega) (by omega) ?_; clear H cr; intro v' w' H; rw [hsn.out] at H; obtain ⟨a10, c10, rfl, -⟩ := H.rd.shape)
          go_roundw
          case rel => exact ⟨i + 1, by go_num, by omega, H⟩
          case measure => simp [intOf]; omega
        · obtain rfl : i = 19 := by omega
          have hiI : ¬ (((19 : Nat) : Int) < 19) := by omega
          rw [List.take_of_length_le (by rw [hMO.out]; exact Nat.le_refl _)] at H
          obtain ⟨g6, c6, he6, -⟩ := H.at (by rw [nums_length, hMO.out]; omega)
          cases he6
          have kt := fun w1 (h : Own w0 w1 (slc 3 1 (.slice (some ⟨g6, 0, none⟩) 19 c9) 19 (nums MO) :: slc 3 1 (.slice (some ⟨g5, 0, none⟩) 19 c5) 19 (nums RL) :: slc 85 3 (.slice a8 k c8) k (rows rcell RS) :: slc 3 1 (.slice (some ⟨g3, 0, none⟩) nL c3) nL (nums L) :: slc 3 1 (.slice (some ⟨g4, 0, none⟩) nD c4) nD (nums D) :: Wtr g bs :: ps)) => trim_own 4 h hMO.out (by omega) (by omega)
          rw [hSO2.out] at kt
          have KT := Lib.hid kt
          clear kt
          go_wp2_with fail
          refine (KT.out _ H).mono ?_
          rintro e w14 ⟨_, rfl, rfl, H14⟩
          clear H KT
          obtain ⟨nS, hnS⟩ : ∃ n, Hid (SO.length = n) := ⟨_, Lib.hid rfl⟩
          rw [hnS.out] at H14 hS1 hS2 ⊢
          have H : Own w0 w14 (Wtr g bs :: slc 3 1 (.slice (some ⟨g6, 0, none⟩) nS c9) nS (nums SO) :: slc 3 1 (.slice (some ⟨g5, 0, none⟩) 19 c5) 19 (nums RL) :: slc 85 3 (.slice a8 k c8) k (rows rcell RS) :: slc 3 1 (.slice (some ⟨g3, 0, none⟩) nL c3) nL (nums L) :: slc 3 1 (.slice (some ⟨g4, 0, none⟩) nD c4) nD (nums D) :: ps) := H14.front 5 rfl
          clear H14
          go_wp2_with fail
          have k1 := fun w1 h => head_any (w := w1) (w0 := w0) (ps := slc 3 1 (.slice (some ⟨g6, 0, none⟩) nS c9) nS (nums SO) :: slc 3 1 (.slice (some ⟨g5, 0, none⟩) 19 c5) 19 (nums RL) :: slc 85 3 (.slice a8 k c8) k (rows rcell RS) :: slc 3 1 (.slice (some ⟨g3, 0, none⟩) nL c3) nL (nums L) :: slc 3 1 (.slice (some ⟨g4, 0, none⟩) nD c4) nD (nums D) :: ps) (g := g) (bs := bs) last 2 (by omega) h (by omega)
          obtain ⟨W1, hW1⟩ : ∃ W, Hid (bs ++ headB last 2 = W) := ⟨_, Lib.hid rfl⟩
          have hW1l : W1.length = bs.length + 3 := by rw [← hW1.out, List.length_append]; simp [headB, bitsOf_length]
          rw [hW1.out] at k1
          have e1 : (nL : Int) - 256 - 1 = (nL : Int) - 257 := by omega
          have k2 := fun w1 h => put_any (w := w1) (w0 := w0) (ps := slc 3 1 (.slice (some ⟨g6, 0, none⟩) nS c9) nS (nums SO) :: slc 3 1 (.slice (some ⟨g5, 0, none⟩) 19 c5) 19 (nums RL) :: slc 85 3 (.slice a8 k c8) k (rows rcell RS) :: slc 3 1 (.slice (some ⟨g3, 0, none⟩) nL c3) nL (nums L) :: slc 3 1 (.slice (some ⟨g4, 0, none⟩) nD c4) nD (nums D) :: ps) (g := g) (bs := W1) ((nL : Int) - 256 - 1) 5 (by omega) (by omega) h (by omega)
          have k3 := fun w1 h => put_any (w := w1) (w0 := w0) (ps := slc 3 1 (.slice (some ⟨g6, 0, none⟩) nS c9) nS (nums SO) :: slc 3 1 (.slice (some ⟨g5, 0, none⟩) 19 c5) 19 (nums RL) :: slc 85 3 (.slice a8 k c8) k (rows rcell RS) :: slc 3 1 (.slice (some ⟨g3, 0, none⟩) nL c3) nL (nums L) :: slc 3 1 (.slice (some ⟨g4, 0, none⟩) nD c4) nD (nums D) :: ps) (g := g) (bs := W1 ++ bitsOf ((nL : Int) - 257) 5) ((nD : Int) - 1) 5 (by omega) (by omega) h (by rw [List.length_append, bitsOf_length]; omega)
          have k4 := fun w1 h => put_any (w := w1) (w0 := w0) (ps := slc 3 1 (.slice (some ⟨g6, 0, none⟩) nS c9) nS (nums SO) :: slc 3 1 (.slice (some ⟨g5, 0, none⟩) 19 c5) 19 (nums RL) :: slc 85 3 (.slice a8 k c8) k (rows rcell RS) :: slc 3 1 (.slice (some ⟨g3, 0, none⟩) nL c3) nL (nums L) :: slc 3 1 (.slice (some ⟨g4, 0, none⟩) nD c4) nD (nums D) :: ps) (g := g) (bs := W1 ++ bitsOf ((nL : Int) - 257) 5 ++ bitsOf ((nD : Int) - 1) 5) ((nS : Int) - 4) 4 (by omega) (by omega) h (by rw [List.length_append, List.length_append, bitsOf_length, bitsOf_length]; omega)
          rw [show cut 5 = 5 from rfl, e1] at k2
          rw [show cut 5 = 5 from rfl] at k3
          rw [show cut 4 = 4 from rfl] at k4
          obtain ⟨W2, hW2⟩ : ∃ W, Hid (W1 ++ bitsOf ((nL : Int) - 257) 5 ++ bitsOf ((nD : Int) - 1) 5 ++ bitsOf ((nS : Int) - 4) 4 = W) := ⟨_, Lib.hid rfl⟩
          have hW2l : W2.length = bs.length + 17 := by rw [← hW2.out]; simp only [List.length_append, bitsOf_length]; omega
          have hW2b : Hid (W1 ++ sizesB nL nD nS = W2) := Lib.hid (by rw [← hW2.out]; unfold sizesB; simp only [List.append_assoc])
          rw [hW2.out] at k4
          have hw1 : IntKind.i64.wrap ((nL : Int) - 256) = (nL : Int) - 256 := IntWalk.i64_in _ ⟨by omega, by omega⟩
          have hw2 : IntKind.i64.wrap ((nL : Int) - 256 - 1) = (nL : Int) - 257 := by rw [e1]; exact IntWalk.i64_in _ ⟨by omega, by omega⟩
          have hw3 : IntKind.i64.wrap ((nD : Int) - 1) = (nD : Int) - 1 := IntWalk.i64_in _ ⟨by omega, by omega⟩
          have hw4 : IntKind.i64.wrap ((nS : Int) - 4) = (nS : Int) - 4 := IntWalk.i64_in _ ⟨by omega, by omega⟩
          have K1 := Lib.hid k1
          have K2 := Lib.hid k2
          have K3 := Lib.hid k3
          have K4 := Lib.hid k4
          clear k1 k2 k3 k4 e1
          refine (K1.out _ H).mono ?_
          rintro e w15 ⟨_, rfl, H15⟩
          clear H
          go_wp2_with fail
          refine (K2.out _ H15).mono ?_
          rintro e w16 ⟨_, rfl, H⟩
          clear H15
          go_wp2_with fail
          refine (K3.out _ H).mono ?_
          rintro e w17 ⟨_, rfl, H17⟩
          clear H
          go_wp2_with fail
          refine (K4.out _ H17).mono ?_
          rintro e w18 ⟨_, rfl, H⟩
          clear H17 K1 K2 K3 K4 hw1 hw2 hw3 hw4
          go_wp2_with fail
          go_loopw [105] (fun s105 wx => ∃ j : Nat, s105 = .int .i64 j ∧ j ≤ nS ∧ Own w0 wx (Wtr g (W2 ++ lensB (SO.take j)) :: slc 3 1 (.slice (some ⟨g6, 0, none⟩) nS c9) nS (nums SO) :: slc 3 1 (.slice (some ⟨g5, 0, none⟩) 19 c5) 19 (nums RL) :: slc 85 3 (.slice a8 k c8) k (rows rcell RS) :: slc 3 1 (.slice (some ⟨g3, 0, none⟩) nL c3) nL (nums L) :: slc 3 1 (.slice (some ⟨g4, 0, none⟩) nD c4) nD (nums D) :: ps)) (fun s105 _ => nS - (intOf s105).toNat)
          case atStart => exact ⟨0, by go_num, by omega, by simpa [lensB] using H⟩
          case round =>
            clear H
            obtain ⟨j, rfl, hj, H⟩ := hrel
            have hll : (lensB (SO.take j)).length ≤ 3 * 19 := by
              have h1 := flat_le (f := fun n => bitsOf n 3) (b := 3) (SO.take j) (fun x _ => by rw [bitsOf_length]; exact Nat.le_refl _)
              rw [List.length_take] at h1
              unfold lensB
              omega
            by_cases hjl : j < nS
            · have hjI : (j : Int) < (nS : Int) := by omega
              have hjS : j < SO.length := by rw [hnS.out]; exact hjl
              have cs := (H.front 1 rfl).getc (nums_get (getD_get hjS))
              have hx7 := M7.out _ (mem_getD2 hjS)
              have hsn : Hid (W2 ++ lensB (SO.take (j + 1)) = W2 ++ lensB (SO.take j) ++ bitsOf (SO.getD j 0) 3) := Lib.hid (by rw [lensB_succ hjS, List.append_assoc])
              obtain ⟨xv, hxv⟩ : ∃ xv, SO.getD j 0 = xv := ⟨_, rfl⟩
              rw [hxv] at cs hx7 hsn
              have k1 := fun w1 h => put_any (w := w1) (w0 := w0) (ps := slc 3 1 (.slice (some ⟨g6, 0, none⟩) nS c9) nS (nums SO) :: slc 3 1 (.slice (some ⟨g5, 0, none⟩) 19 c5) 19 (nums RL) :: slc 85 3 (.slice a8 k c8) k (rows rcell RS) :: slc 3 1 (.slice (some ⟨g3, 0, none⟩) nL c3) nL (nums L) :: slc 3 1 (.slice (some ⟨g4, 0, none⟩) nD c4) nD (nums D) :: ps) (g := g) (bs := W2 ++ lensB (SO.take j)) xv 3 (by omega) (by omega) h (by rw [List.length_append]; omega)
              rw [show cut 3 = 3 from rfl, ← hsn.out] at k1
              have K1 := Lib.hid k1
              clear k1 hxv hll
              go_wp2_with fail
              refine (K1.out _ H).mono ?_
              rintro e w19 ⟨_, rfl, H19⟩
              clear H cs
              go_wp2_with fail
              go_roundw
              case rel => exact ⟨j + 1, by go_num, by omega, H19⟩
              case measure => simp [intOf]; omega
            · obtain rfl : j = nS := by omega
              have hjI : ¬ (j : Int) < (j : Int) := by omega
              rw [List.take_of_length_le (by rw [hnS.out]; exact Nat.le_refl _)] at H hll
              obtain ⟨W3, hW3⟩ : ∃ W, Hid (W2 ++ lensB SO = W) := ⟨_, Lib.hid rfl⟩
              have hW3l : W3.length ≤ bs.length + 74 := by rw [← hW3.out, List.length_append]; omega
              rw [hW3.out] at H
              have km := fun w1 h => made_any (w := w1) (v := .slice (some ⟨g5, 0, none⟩) 19 c5) (n := 19) (L := RL) h (by omega) MR.out.cerr
              rw [HRLL.out] at km
              have KM := Lib.hid km
              clear km hll
              go_wp2_with fail
              refine (KM.out _ (H.front 2 rfl).rd).mono ?_
              rintro e w20 ⟨_, rfl, u11, rfl, J⟩
              replace H := H.join J
              clear J KM
              obtain ⟨a11, c11, rfl, -⟩ := H.rd.shape
              go_upto_region 29 with (refine wpList_store_agg (vs := [.slice (some ⟨g5, 0, none⟩) 19 c5, .slice a11 19 c11]) rfl _ _ rfl rfl (H.alloc _) rfl (by kernel_rfl) (by simp) (by simp; exact ⟨rfl, rfl⟩) rfl ?_; intro w21 H21)
              clear H
              generalize w20.heap.size = gc at *
              have H : Own w0 w21 (Wtr g W3 :: blk gc (.cells #[.slice (some ⟨g5, 0, none⟩) 19 c5, .slice a11 19 c11] 55) :: slc 3 1 (.slice a11 19 c11) 19 (nums (codesF RL)) :: slc 3 1 (.slice (some ⟨g6, 0, none⟩) j c9) j (nums SO) :: slc 3 1 (.slice (some ⟨g5, 0, none⟩) 19 c5) 19 (nums RL) :: slc 85 3 (.slice a8 k c8) k (rows rcell RS) :: slc 3 1 (.slice (some ⟨g3, 0, none⟩) nL c3) nL (nums L) :: slc 3 1 (.slice (some ⟨g4, 0, none⟩) nD c4) nD (nums D) :: ps) := H21.front 2 rfl
              clear H21
              have hco : CodOk w0 (blk gc (.cells #[.slice (some ⟨g5, 0, none⟩) 19 c5, .slice a11 19 c11] 55) :: slc 3 1 (.slice a11 19 c11) 19 (nums (codesF RL)) :: slc 3 1 (.slice (some ⟨g6, 0, none⟩) j c9) j (nums SO) :: slc 3 1 (.slice (some ⟨g5, 0, none⟩) 19 c5) 19 (nums RL) :: slc 85 3 (.slice a8 k c8) k (rows rcell RS) :: slc 3 1 (.slice (some ⟨g3, 0, none⟩) nL c3) nL (nums L) :: slc 3 1 (.slice (some ⟨g4, 0, none⟩) nD c4) nD (nums D) :: ps) (.slice (some ⟨g5, 0, none⟩) 19 c5) (.slice a11 19 c11) RL := ⟨fun w' h => by rw [HRLL.out]; exact (h.front 3 rfl).rd, fun w' h => by rw [HRLL.out]; exact (h.front 1 rfl).rd, MR.out.all, MR.out.wt, by rw [HRLL.out]; omega⟩
              have HCO := Lib.hid hco
              have hbdR : ∀ m, (runsB RL (RS.take m)).length ≤ 22 * 632 := fun m => by
                have h1 := flat_le (f := runB RL) (b := 22) (RS.take m) (fun r hr => by
                  have h2 := cbits_le MR.out.all r.sym.toNat
                  have h3 := (OKR.out r (List.mem_of_mem_take hr)).n
                  unfold runB
                  rw [List.length_append, bitsOf_length]
                  omega)
                rw [List.length_take] at h1
                unfold runsB
                have := hnR.out
                omega
              have HBR := Lib.hid hbdR
              clear hco hbdR
              go_wp2_with fail
              go_loopw [117] (fun s117 wx => ∃ m : Nat, s117 = .int .i64 m ∧ m ≤ k ∧ Own w0 wx (Wtr g (W3 ++ runsB RL (RS.take m)) :: blk gc (.cells #[.slice (some ⟨g5, 0, none⟩) 19 c5, .slice a11 19 c11] 55) :: slc 3 1 (.slice a11 19 c11) 19 (nums (codesF RL)) :: slc 3 1 (.slice (some ⟨g6, 0, none⟩) j c9) j (nums SO) :: slc 3 1 (.slice (some ⟨g5, 0, none⟩) 19 c5) 19 (nums RL) :: slc 85 3 (.slice a8 k c8) k (rows rcell RS) :: slc 3 1 (.slice (some ⟨g3, 0, none⟩) nL c3) nL (nums L) :: slc 3 1 (.slice (some ⟨g4, 0, none⟩) nD c4) nD (nums D) :: ps)) (fun s117 _ => k - (intOf s117).toNat)
              case atStart => exact ⟨0, by go_num, by omega, by simpa [runsB] using H⟩
              case round =>
                clear H
                obtain ⟨m, rfl, hm, H⟩ := hrel
                have hbl := HBR.out m
                by_cases hmk : m < k
                · have hmI : (m : Int) < (k : Int) := by omega
                  obtain ⟨t, htk⟩ := get_of_lt (l := RS) (k := m) (by rw [hnR.out]; exact hmk)
                  have hok := OKR.out t (List.mem_of_getElem? htk)
                  have hps := runL_pos OKR.out (by rw [hnR.out]; omega) (List.mem_of_getElem? htk)
                  rw [hRL.out] at hps
                  obtain ⟨b, o, _, he2, -⟩ := (H.front 5 rfl).rd.some (by rw [rows_length rcell rcell_length, hnR.out]; omega)
                  cases he2
                  obtain ⟨c0, cc1, cc2⟩ := run_cells (H.front 5 rfl).rd htk
                  have hsn := runB_succ (ls := RL) htk
                  unfold runB at hsn
                  obtain ⟨hsy, hrn1, hrv⟩ := hok
                  obtain ⟨x, y, z⟩ := t
                  simp only at c0 cc1 cc2 hsy hrn1 hrv hps hsn
                  obtain ⟨x, rfl⟩ : ∃ s : Nat, x = s := ⟨x.toNat, by omega⟩
                  obtain ⟨y, rfl⟩ : ∃ s : Nat, y = s := ⟨y.toNat, by omega⟩
                  simp only [Int.toNat_natCast] at hps hsn hrv
                  have hxl := pos_lt hps
                  have hz128 : z < 128 := by
                    have : (2 : Int) ^ y ≤ 2 ^ 7 := pow2_le (by omega)
                    omega
                  have hsn2 : Hid (W3 ++ runsB RL (RS.take (m + 1)) = W3 ++ runsB RL (RS.take m) ++ cbits RL x ++ bitsOf z y) := Lib.hid (by rw [hsn]; simp only [List.append_assoc])
                  obtain ⟨WB, hWB⟩ : ∃ W, Hid (W3 ++ runsB RL (RS.take m) = W) := ⟨_, Lib.hid rfl⟩
                  have hWBl : WB.length ≤ bs.length + 14000 := by rw [← hWB.out, List.length_append]; omega
                  rw [hWB.out] at H hsn2
                  have hcx := cbits_le MR.out.all x
                  have k1 := fun (tb : Nat) w1 h => cput_any (w := w1) (HCO.out.mono (qs := blk tb (.cells #[.int .i64 (x : Int), .int .i64 (y : Int), .int .i64 z] 85) :: blk gc (.cells #[.slice (some ⟨g5, 0, none⟩) 19 c5, .slice a11 19 c11] 55) :: slc 3 1 (.slice a11 19 c11) 19 (nums (codesF RL)) :: slc 3 1 (.slice (some ⟨g6, 0, none⟩) j c9) j (nums SO) :: slc 3 1 (.slice (some ⟨g5, 0, none⟩) 19 c5) 19 (nums RL) :: slc 85 3 (.slice (some ⟨b, o, none⟩) k c8) k (rows rcell RS) :: slc 3 1 (.slice (some ⟨g3, 0, none⟩) nL c3) nL (nums L) :: slc 3 1 (.slice (some ⟨g4, 0, none⟩) nD c4) nD (nums D) :: ps) fun w' h => h.drop) hxl h (bs := WB) (g := g) (by omega)
                  have k2 := fun (tb : Nat) w1 h => put_any (w := w1) (w0 := w0) (ps := blk tb (.cells #[.int .i64 (x : Int), .int .i64 (y : Int), .int .i64 z] 85) :: blk gc (.cells #[.slice (some ⟨g5, 0, none⟩) 19 c5, .slice a11 19 c11] 55) :: slc 3 1 (.slice a11 19 c11) 19 (nums (codesF RL)) :: slc 3 1 (.slice (some ⟨g6, 0, none⟩) j c9) j (nums SO) :: slc 3 1 (.slice (some ⟨g5, 0, none⟩) 19 c5) 19 (nums RL) :: slc 85 3 (.slice (some ⟨b, o, none⟩) k c8) k (rows rcell RS) :: slc 3 1 (.slice (some ⟨g3, 0, none⟩) nL c3) nL (nums L) :: slc 3 1 (.slice (some ⟨g4, 0, none⟩) nD c4) nD (nums D) :: ps) (g := g) (bs := WB ++ cbits RL x) z (y : Int) (by omega) (by omega) h (by rw [List.length_append]; omega)
                  rw [cut_eq (by omega) (by omega), Int.toNat_natCast, ← hsn2.out] at k2
                  have K1 := Lib.hid k1
                  have K2 := Lib.hid k2
                  clear k1 k2 hsn hrv hps hbl htk hcx hxl
                  go_upto_region 32 with (refine wpList_store_agg (vs := [.int .i64 x, .int .i64 y, .int .i64 z]) rfl _ _ rfl rfl (H.alloc _) rfl (by kernel_rfl) (by simp) (by simp; exact ⟨rfl, rfl, rfl⟩) rfl ?_; clear c0 cc1 cc2; intro w22 H22)
                  clear H
                  generalize wr.heap.size = tb at *
                  have H : Own w0 w22 (Wtr g WB :: blk tb (.cells #[.int .i64 (x : Int), .int .i64 (y : Int), .int .i64 z] 85) :: blk gc (.cells #[.slice (some ⟨g5, 0, none⟩) 19 c5, .slice a11 19 c11] 55) :: slc 3 1 (.slice a11 19 c11) 19 (nums (codesF RL)) :: slc 3 1 (.slice (some ⟨g6, 0, none⟩) j c9) j (nums SO) :: slc 3 1 (.slice (some ⟨g5, 0, none⟩) 19 c5) 19 (nums RL) :: slc 85 3 (.slice (some ⟨b, o, none⟩) k c8) k (rows rcell RS) :: slc 3 1 (.slice (some ⟨g3, 0, none⟩) nL c3) nL (nums L) :: slc 3 1 (.slice (some ⟨g4, 0, none⟩) nD c4) nD (nums D) :: ps) := H22.swap
                  clear H22
                  have c0 := (H.front 1 rfl).cells
                  have cg := (H.front 2 rfl).cells
                  go_wp2_with fail
                  refine (K1.out _ _ H).mono ?_
                  rintro e w23 ⟨_, rfl, H23⟩
                  clear H c0 cg
                  have c0 := (H23.front 1 rfl).cells
                  go_wp2_with fail
                  refine (K2.out _ _ H23).mono ?_
                  rintro e w24 ⟨_, rfl, H24⟩
                  clear H23 c0
                  have H := (H24.front 1 rfl).drop
                  clear H24
                  go_wp2_with fail
                  go_roundw
                  case rel => exact ⟨m + 1, by go_num, by omega, H⟩
                  case measure => simp [intOf]; omega
                · obtain rfl : m = k := by omega
                  have hmI : ¬ (m : Int) < (m : Int) := by omega
                  rw [List.take_of_length_le (by rw [hnR.out]; exact Nat.le_refl _)] at H hbl
                  obtain ⟨W4, hW4⟩ : ∃ W, Hid (W3 ++ runsB RL RS = W) := ⟨_, Lib.hid rfl⟩
                  have hW4l : W4.length ≤ bs.length + 14000 := by rw [← hW4.out, List.length_append]; omega
                  rw [hW4.out] at H
                  have kL := fun w1 h => made_any (w := w1) (v := .slice (some ⟨g3, 0, none⟩) nL c3) (n := nL) (L := L) h (by omega) ML.out.cerr
                  have kD := fun w1 h => made_any (w := w1) (v := .slice (some ⟨g4, 0, none⟩) nD c4) (n := nD) (L := D) h (by omega) MD.out.cerr
                  rw [hnL.out] at kL
                  rw [hnD.out] at kD
                  have KL := Lib.hid kL
                  have KD := Lib.hid kD
                  clear kL kD hbl
                  go_wp2_with fail
                  refine (KL.out _ (H.front 6 rfl).rd).mono ?_
                  rintro e w25 ⟨_, rfl, u12, rfl, J⟩
                  replace H := H.join J
                  clear J KL
                  obtain ⟨a12, c12, rfl, -⟩ := H.rd.shape
                  go_wp2_with fail
                  refine (KD.out _ (H.front 8 rfl).rd).mono ?_
                  rintro e w26 ⟨_, rfl, u13, rfl, J⟩
                  replace H := H.join J
                  clear J KD
                  obtain ⟨a13, c13, rfl, -⟩ := H.rd.shape
                  have H : Own w0 w26 (Wtr g W4 :: slc 3 1 (.slice a13 nD c13) nD (nums (codesF D)) :: slc 3 1 (.slice a12 nL c12) nL (nums (codesF L)) :: slc 3 1 (.slice (some ⟨g3, 0, none⟩) nL c3) nL (nums L) :: slc 3 1 (.slice (some ⟨g4, 0, none⟩) nD c4) nD (nums D) :: ps) := (((((((H.front 2 rfl).front 7 rfl).front 7 rfl).front 7 rfl).front 7 rfl).front 7 rfl).drop.drop.drop.drop.drop)
                  have cokL : CodOk w0 (slc 3 1 (.slice a13 nD c13) nD (nums (codesF D)) :: slc 3 1 (.slice a12 nL c12) nL (nums (codesF L)) :: slc 3 1 (.slice (some ⟨g3, 0, none⟩) nL c3) nL (nums L) :: slc 3 1 (.slice (some ⟨g4, 0, none⟩) nD c4) nD (nums D) :: ps) (.slice (some ⟨g3, 0, none⟩) nL c3) (.slice a12 nL c12) L := ⟨fun w' h => by rw [hnL.out]; exact (h.front 2 rfl).rd, fun w' h => by rw [hnL.out]; exact (h.front 1 rfl).rd, ML.out.all, ML.out.wt, by rw [hnL.out]; omega⟩
                  have cokD : CodOk w0 (slc 3 1 (.slice a13 nD c13) nD (nums (codesF D)) :: slc 3 1 (.slice a12 nL c12) nL (nums (codesF L)) :: slc 3 1 (.slice (some ⟨g3, 0, none⟩) nL c3) nL (nums L) :: slc 3 1 (.slice (some ⟨g4, 0, none⟩) nD c4) nD (nums D) :: ps) (.slice (some ⟨g4, 0, none⟩) nD c4) (.slice a13 nD c13) D := ⟨fun w' h => by rw [hnD.out]; exact (h.front 3 rfl).rd, fun w' h => by rw [hnD.out]; exact h.rd, MD.out.all, MD.out.wt, by rw [hnD.out]; omega⟩
                  have kb := body_any cokL cokD (l := l) (tv := .slice ta N tc) (by rw [hN.out]; exact HT.out.mono fun w' h => h.drop.drop.drop.drop) OKS.out (by rw [hnL.out]; omega) H (by rw [hN.out]; omega)
                  have KB := Lib.hid kb
                  have hfin : Hid (bs ++ headB last 2 ++ (sizesB L.length D.length SO.length ++ (lensB SO ++ (runsB RL RS ++ bodyB L D l))) = W4 ++ bodyB L D l) := Lib.hid (by
                    rw [hnL.out, hnD.out, hnS.out, ← hW4.out, ← hW3.out, ← hW2b.out, ← hW1.out]
                    simp only [List.append_assoc])
                  clear kb cokL cokD
                  go_wp2_with fail
                  refine KB.out.mono ?_
                  rintro e w27 ⟨_, rfl, H27⟩
                  go_wp2_with fail
                  go_end0
                  rw [hfin.out]
                  exact ⟨_, rfl, (((((H27.front 4 rfl).front 4 rfl).front 4 rfl).front 4 rfl).drop.drop.drop.drop)⟩
end Go.Proofs.Yteoecchggjmffaa
/- flate: the walks of Block, Rich, Pack. -/
namespace Go.Proofs.Yteoecchggjmffaa
open Go.RowKit

theorem blockB_ne {l : List Tok} {kind : Int} {last : Bool} (h : kind ≠ 1) : blockB l kind last = blockB l 2 last := by
  unfold blockB
  rw [if_neg h, if_neg (by omega)]
theorem block_any {w0 w : World} {ps : List Piece} {g : Nat} {bs : List Bool} {tv : Value} {l : List Tok} (kind : Int) (last : Bool) (ht : Reads w0 ps 3 tv l.length (rows tcell l)) (hs : ∀ t ∈ l, TokOk t) (hln : l.length ≤ 1000000) (H : Own w0 w (Wtr g bs :: ps)) (hl : bs.length + 48 * l.length ≤ 35184372000000) :
    Calls Try.prog 23 #[.pointer (some ⟨g, 0, none⟩), tv, .int .i64 kind, .bool last] w (Ret fun _ w' => Own w0 w' (Wtr g (bs ++ blockB l kind last) :: ps)) := by
  by_cases hk : kind = 1
  · subst hk
    exact block1_any last ht hs H (by omega)
  · have hkb : (kind == 1) = false := by simpa using hk
    rw [blockB_ne hk]
    obtain ⟨ta, tc, rfl, ht1, ht2⟩ := (ht w H.drop).shape
    have k1 := rich_any (g := g) (bs := bs) last ht hs hln H hl
    have K1 := Lib.hid k1
    clear k1 ht hs hk
    generalize l.length = N at *
    go_enter Try.func23, Try.ntmps23
    go_wp2_with fail
    refine K1.out.mono ?_
    rintro e w1 ⟨_, rfl, H2⟩
    go_wp2_with fail
    go_end0
    exact ⟨_, rfl, H2⟩
def richF (s : ByteArray) : ByteArray := textOf (blockB (parse s) 2 true)
set_option maxRecDepth 100000 in
theorem richT_any {w : World} (s : ByteArray) (hs : s.size ≤ 1000000) :
    Calls Try.prog 25 #[.string s] w (Ret fun r w' => r = .string (richF s) ∧ Own w w' []) := by
  have H := (Own.start w).newWtr
  obtain ⟨T, hT⟩ : ∃ T, Hid (parse s = T) := ⟨_, rfl⟩
  have hok := parse_ok s
  have hlen := parse_len s
  unfold richF
  rw [hT.out] at hok hlen ⊢
  have HOK := Lib.hid hok
  clear hok
  go_enter Try.func25, Try.ntmps25
  go_wp2_with fail
  generalize w.alloc _ = w1 at *
  generalize w.heap.size = g at *
  refine (lzparse_any H hs).mono ?_
  rintro e w2 ⟨v, rfl, H2⟩
  rw [hT.out] at H2
  clear H
  obtain ⟨a, c, rfl, -⟩ := H2.rd.shape
  have hb := block_any (l := T) 2 true (fun w' h => h.rd) HOK.out (by omega) H2.swap (by simp; omega)
  rw [List.nil_append] at hb
  have HB := Lib.hid hb
  clear hb
  obtain ⟨N, hN⟩ : ∃ N, Hid (T.length = N) := ⟨_, rfl⟩
  rw [hN.out] at HB ⊢
  go_wp2_with fail
  refine HB.out.mono ?_
  rintro e w3 ⟨_, rfl, H3⟩
  clear H2
  go_wp2_with fail
  refine (bytes_any H3).mono ?_
  rintro e w4 ⟨rfl, rfl⟩
  go_wp2_with fail
  go_ret
  exact ⟨_, rfl, rfl, H3.bare⟩
/-- The shorter of two texts. -/
def shorter (a b : ByteArray) : ByteArray := if b.size < a.size then b else a
def packF (s : ByteArray) : ByteArray := shorter (shorter (textOf (storeF s)) (simpleF s)) (richF s)
set_option maxRecDepth 100000 in
set_option maxHeartbeats 1600000 in
theorem pack_any {w : World} (s : ByteArray) (hs : s.size ≤ 1000000) :
    Calls Try.prog 28 #[.string s] w (Ret fun r w' => r = .string (packF s) ∧ Own w w' []) := by
  have H := Own.start w
  obtain ⟨A, hA⟩ : ∃ A, Hid (textOf (storeF s) = A) := ⟨_, Lib.hid rfl⟩
  obtain ⟨B, hB⟩ : ∃ B, Hid (simpleF s = B) := ⟨_, Lib.hid rfl⟩
  obtain ⟨C, hC⟩ : ∃ C, Hid (richF s = C) := ⟨_, Lib.hid rfl⟩
  obtain ⟨R, hR⟩ : ∃ R, Hid (shorter (shorter A B) C = R) := ⟨_, Lib.hid rfl⟩
  have hP : packF s = R := by unfold packF; rw [hA.out, hB.out, hC.out, hR.out]
  rw [hP]
  have k1 := fun w => store_any (w := w) s hs
  have k2 := fun w => simple_any (w := w) s hs
  have k3 := fun w => richT_any (w := w) s hs
  rw [hA.out] at k1
  rw [hB.out] at k2
  rw [hC.out] at k3
  have K1 := Lib.hid k1
  have K2 := Lib.hid k2
  have K3 := Lib.hid k3
  clear k1 k2 k3 hP hA hB hC
  go_enter Try.func28, Try.ntmps28
  go_wp2_with fail
  refine (K1.out _).mono ?_
  rintro e w1 ⟨_, rfl, rfl, J⟩
  replace H := H.join J
  clear J
  go_wp2_with fail
  refine (K2.out _).mono ?_
  rintro e w2 ⟨_, rfl, rfl, J⟩
  replace H := H.join J
  clear J
  go_wp2_with fail
  refine (K3.out _).mono ?_
  rintro e w3 ⟨_, rfl, rfl, J⟩
  replace H := H.join J
  clear J K1 K2 K3
  go_upto_region 3 with (fail)
  have h9 := H.alloc (.cells #[.string B, .string C] 9)
  have H : Own w (w3.alloc (.cells #[.string B, .string C] 9)) (blk w3.heap.size (.cells #[.string B, .string C] 9) :: []) := h9
  clear h9
  generalize w3.alloc _ = w4 at *
  generalize w3.heap.size = g at *
  go_loopw [3, 14] (fun s3 s14 wx => ∃ (k : Nat) (X : ByteArray), s14 = .int .i64 k ∧ s3 = .string X ∧ (k = 0 ∧ Hid (X = A) ∨ k = 1 ∧ Hid (X = shorter A B) ∨ k = 2 ∧ Hid (X = R)) ∧ Own w wx (blk g (.cells #[.string B, .string C] 9) :: [])) (fun _ s14 _ => 2 - (intOf s14).toNat)
  case atStart => exact ⟨0, A, by go_num, rfl, .inl ⟨rfl, Lib.hid rfl⟩, H⟩
  case round =>
    clear H
    obtain ⟨k, X, rfl, rfl, hc, H⟩ := hrel
    rcases hc with ⟨rfl, hX⟩ | ⟨rfl, hX⟩ | ⟨rfl, hX⟩
    · have c0 := H.cells
      have hs1 : Hid (shorter X B = shorter A B) := Lib.hid (by rw [hX.out])
      by_cases hlt : B.size < X.size
      · have hI : (B.size : Int) < (X.size : Int) := by omega
        have hn : Hid (B = shorter A B) := Lib.hid (by rw [← hs1.out]; unfold shorter; rw [if_pos hlt])
        go_wp2_with fail
        go_roundw
        case rel => exact ⟨1, B, by go_num, rfl, .inr (.inl ⟨rfl, hn⟩), H⟩
        case measure => simp [intOf]
      · have hI : ¬ (B.size : Int) < (X.size : Int) := by omega
        have hn : Hid (X = shorter A B) := Lib.hid (by rw [← hs1.out]; unfold shorter; rw [if_neg hlt])
        go_wp2_with fail
        go_roundw
        case rel => exact ⟨1, X, by go_num, rfl, .inr (.inl ⟨rfl, hn⟩), H⟩
        case measure => simp [intOf]
    · have c0 := H.cells
      have hs1 : Hid (shorter X C = R) := Lib.hid (by rw [hX.out, hR.out])
      by_cases hlt : C.size < X.size
      · have hI : (C.size : Int) < (X.size : Int) := by omega
        have hn : Hid (C = R) := Lib.hid (by rw [← hs1.out]; unfold shorter; rw [if_pos hlt])
        go_wp2_with fail
        go_roundw
        case rel => exact ⟨2, C, by go_num, rfl, .inr (.inr ⟨rfl, hn⟩), H⟩
        case measure => simp [intOf]
      · have hI : ¬ (C.size : Int) < (X.size : Int) := by omega
        have hn : Hid (X = R) := Lib.hid (by rw [← hs1.out]; unfold shorter; rw [if_neg hlt])
        go_wp2_with fail
        go_roundw
        case rel => exact ⟨2, X, by go_num, rfl, .inr (.inr ⟨rfl, hn⟩), H⟩
        case measure => simp [intOf]
    · rw [hX.out] at *
      clear hX
      go_wp2_with fail
      go_ret
      exact ⟨_, rfl, rfl, H.bare⟩
end Go.Proofs.Yteoecchggjmffaa
/- flate: what is written, as a text, plainly. No program in sight. -/
namespace Go.Proofs.Yteoecchggjmffaa
open Go.RowKit

theorem byteNums_extract (s : ByteArray) (i j : Nat) : byteNums (s.extract i j) = ((byteNums s).drop i).take (j - i) := by
  unfold byteNums
  rw [ByteArray.data_extract, Array.toList_extract, List.extract_eq_take_drop, ← List.map_drop, ← List.map_take]
theorem byteNums_inj {a b : ByteArray} (h : byteNums a = byteNums b) : a = b := by
  unfold byteNums at h
  have h2 : a.data.toList = b.data.toList := (List.map_inj_right (fun x y h => UInt8.toNat_inj.1 (by have h : ((x.toNat : Nat) : Int) = ((y.toNat : Nat) : Int) := h; omega))).1 h
  exact ByteArray.ext (Array.toList_inj.1 h2)
theorem byteNums_textOf (bs : List Bool) : byteNums (textOf bs) = bytesOf bs := byteNums_strOfNums _ (bytesOf_bd bs)
theorem byteNums_get {s : ByteArray} {i : Nat} {v : Int} (h : (byteNums s)[i]? = some v) : ∃ b : UInt8, s[i]? = some b ∧ (b.toNat : Int) = v := by
  unfold byteNums at h
  rw [List.getElem?_map, Array.getElem?_toList] at h
  cases hd : s.data[i]? with
  | none => rw [hd] at h; cases h
  | some b =>
    rw [hd] at h
    refine ⟨b, ?_, by simpa using h⟩
    have hi := (Array.getElem?_eq_some_iff.1 hd).1
    have hi2 : i < s.size := hi
    rw [getElem?_pos s i hi2]
    have := (Array.getElem?_eq_some_iff.1 hd).2
    congr 1
/-- What stands behind the first bit. -/
def blockR (l : List Tok) (kind : Int) : List Bool := (blockB l kind true).drop 1
theorem block_first (l : List Tok) (kind : Int) (last : Bool) : blockB l kind last = last :: blockR l kind := by
  unfold blockR blockB headB
  split <;> rfl
theorem first_bytes (r : List Bool) : ∃ (v : Int) (tl : List Int), 0 ≤ v ∧ v ≤ 254 ∧ bytesOf (true :: r) = (v + 1) :: tl ∧ bytesOf (false :: r) = v :: tl := by
  have hn : 1 ≤ nbytes (r.length + 1) := by unfold nbytes; omega
  obtain ⟨n, hn⟩ : ∃ n, nbytes (r.length + 1) = n + 1 := ⟨nbytes (r.length + 1) - 1, by omega⟩
  have hv := valOf_bd (r.take 7)
  have hp : (2 : Int) ^ (r.take 7).length ≤ 2 ^ 7 := pow2_le (by rw [List.length_take]; omega)
  refine ⟨2 * valOf (r.take 7), (List.range n).map (fun k => byteAt (true :: r) (k + 1)), by omega, by omega, ?_, ?_⟩
  · unfold bytesOf
    rw [List.length_cons, hn, List.range_succ_eq_map, List.map_cons, List.map_map]
    have e : byteAt (true :: r) 0 = 2 * valOf (r.take 7) + 1 := by
      unfold byteAt; simp [valOf, bi]; omega
    first | (rw [e]; done) | (rw [e]; rfl)
  · unfold bytesOf
    rw [List.length_cons, hn, List.range_succ_eq_map, List.map_cons, List.map_map]
    have e : byteAt (false :: r) 0 = 2 * valOf (r.take 7) := by
      unfold byteAt; simp [valOf, bi]
    rw [e]
    congr 1
/-- A block that is the last one differs in its first bit alone. -/
theorem block_texts (l : List Tok) (kind : Int) : ∃ (n : Nat) (a b : UInt8) (t : ByteArray), (textOf (blockB l kind true)).size = n ∧ (textOf (blockB l kind false)).size = n ∧ 1 ≤ n ∧ (textOf (blockB l kind true))[0]? = some a ∧ (textOf (blockB l kind false))[0]? = some b ∧ IntKind.u8.wrap ((b.toNat : Int) + 1) = (a.toNat : Int) ∧
    (textOf (blockB l kind true)).extract 1 n = t ∧ (textOf (blockB l kind false)).extract 1 n = t := by
  rw [block_first, block_first]
  obtain ⟨v, tl, hv0, hv1, hx, hy⟩ := first_bytes (blockR l kind)
  obtain ⟨a, ha, hav⟩ := byteNums_get (s := textOf (true :: blockR l kind)) (i := 0) (v := v + 1) (by rw [byteNums_textOf, hx]; rfl)
  obtain ⟨b, hb, hbv⟩ := byteNums_get (s := textOf (false :: blockR l kind)) (i := 0) (v := v) (by rw [byteNums_textOf, hy]; rfl)
  refine ⟨nbytes ((blockR l kind).length + 1), a, b, _, by rw [textOf_size]; rfl, by rw [textOf_size]; rfl, by unfold nbytes; omega, ha, hb, ?_, rfl, ?_⟩
  · rw [hav, hbv]
    exact IntWalk.u8_in _ ⟨by omega, by omega⟩
  · refine byteNums_inj ?_
    rw [byteNums_extract, byteNums_extract, byteNums_textOf, byteNums_textOf, hx, hy]
    rfl
end Go.Proofs.Yteoecchggjmffaa
/- Bits: Writer.Len. -/
namespace Go.Proofs.Yteoecchggjmffaa
open Go.RowKit

theorem len_any {w0 w : World} {ps : List Piece} {g : Nat} {bs : List Bool} (H : Own w0 w (Wtr g bs :: ps)) :
    Calls Try.prog 27 #[.pointer (some ⟨g, 0, none⟩)] w fun e w' => e = .returned (.int .i64 bs.length) ∧ w' = w := by
  obtain ⟨m, hm⟩ : ∃ m, Hid (bs.length = m) := ⟨_, rfl⟩
  obtain ⟨a, cp, hc1, hc2, H⟩ := H.wtr
  rw [hm.out] at H ⊢
  have c0 := H.cells
  go_enter Try.func27, Try.ntmps27
  go_wp2
  go_ret
  exact ⟨rfl, rfl⟩
end Go.Proofs.Yteoecchggjmffaa
/- flate: the walks of the laws on blocks, and on the shortest way. -/
namespace Go.Proofs.Yteoecchggjmffaa
open Go.RowKit

set_option maxRecDepth 100000 in
set_option maxHeartbeats 6400000 in
theorem lawblocks_any (s : ByteArray) (kind : Int) (w : World) : Calls Try.prog 8 #[.string s, .int .i64 kind] w (Ret fun r w' => r = .bool true ∧ Own w w' []) := by
  have H := Own.start w
  go_enter Try.func8, Try.ntmps8
  go_wp2_with fail
  refine (cut_any s _).mono ?_
  rintro e w1 ⟨_, rfl, ⟨t, rfl, ht⟩, H1⟩
  replace H := H.join H1
  clear H1
  obtain ⟨T, hT⟩ : ∃ T, Hid (parse t = T) := ⟨_, Lib.hid rfl⟩
  have hok := parse_ok t
  have hlen := parse_len t
  have kr := fun w => richT_any (w := w) t (by omega)
  have ks := fun w => simple_any (w := w) t (by omega)
  unfold richF at kr
  unfold simpleF at ks
  rw [hT.out] at hok hlen kr ks
  have HOK := Lib.hid hok
  have KR := Lib.hid kr
  have KS := Lib.hid ks
  have kb := fun (w0 w1 : World) (ps : List Piece) (g : Nat) (tv : Value) (last : Bool) (hr : Reads w0 ps 3 tv T.length (rows tcell T)) (h : Own w0 w1 (Wtr g [] :: ps)) => block_any kind last hr hok (by omega) h (by simp; omega)
  simp only [List.nil_append] at kb
  obtain ⟨N, hN⟩ : ∃ N, Hid (T.length = N) := ⟨_, Lib.hid rfl⟩
  rw [hN.out] at kb
  have KB := Lib.hid kb
  obtain ⟨X, hX⟩ : ∃ X, Hid (blockB T kind true = X) := ⟨_, Lib.hid rfl⟩
  obtain ⟨Y, hY⟩ : ∃ Y, Hid (blockB T kind false = Y) := ⟨_, Lib.hid rfl⟩
  obtain ⟨n, xa, xb, xt, hxs, hys, hn1, hxa, hxb, hxw, hxe, hye⟩ := block_texts T kind
  have hXY : Hid (X.length = Y.length) := Lib.hid (by rw [← hX.out, ← hY.out, block_first, block_first]; rfl)
  rw [hX.out] at hxs hxa hxe
  rw [hY.out] at hys hxb hye
  have hK2 : kind ≠ 1 → blockB T 2 true = X := fun h => by rw [← hX.out, blockB_ne h]
  have HK2 := Lib.hid hK2
  clear hok kr ks kb hK2
  have HXS := Lib.hid hxs
  have HYS := Lib.hid hys
  have HXA := Lib.hid hxa
  have HXB := Lib.hid hxb
  have HXW := Lib.hid hxw
  have HXE := Lib.hid hxe
  have HYE := Lib.hid hye
  clear hxs hys hxa hxb hxw hxe hye
  go_upto_region 3 with (fail)
  have h1 := H.newWtr.newWtr
  rw [alloc_heap_size'] at h1
  generalize (w1.alloc _).alloc _ = w2 at *
  generalize w1.heap.size + 1 = g2 at *
  generalize w1.heap.size = g1 at *
  have H : Own w w2 (Wtr g1 [] :: Wtr g2 [] :: []) := h1.swap
  clear h1
  go_wp2_with fail
  refine (lzparse_any H (s := t) (by omega)).mono ?_
  rintro e w3 ⟨v, rfl, H3⟩
  rw [hT.out, hN.out] at H3
  clear H
  obtain ⟨a, c, rfl, -⟩ := H3.rd.shape
  have H : Own w w3 (Wtr g1 [] :: slc 65 3 (.slice a N c) N (rows tcell T) :: Wtr g2 [] :: []) := H3.swap
  clear H3
  go_wp2_with fail
  refine (KB.out _ _ _ _ _ true (fun w' h => h.rd) H).mono ?_
  rintro e w4 ⟨_, rfl, H4⟩
  rw [hX.out] at H4
  have H : Own w w4 (Wtr g1 X :: Wtr g2 [] :: []) := (H4.swap).drop
  clear H4
  go_wp2_with fail
  refine (lzparse_any H (s := t) (by omega)).mono ?_
  rintro e w5 ⟨v, rfl, H3⟩
  rw [hT.out, hN.out] at H3
  clear H
  obtain ⟨a, c, rfl, -⟩ := H3.rd.shape
  have H : Own w w5 (Wtr g2 [] :: slc 65 3 (.slice a N c) N (rows tcell T) :: Wtr g1 X :: []) := H3.front 2 rfl
  clear H3
  go_wp2_with fail
  refine (KB.out _ _ _ _ _ false (fun w' h => h.rd) H).mono ?_
  rintro e w6 ⟨_, rfl, H4⟩
  rw [hY.out] at H4
  have H : Own w w6 (Wtr g1 X :: Wtr g2 Y :: []) := (H4.swap).drop.swap
  clear H4
  go_wp2_with fail
  refine (KR.out _).mono ?_
  rintro e w7 ⟨_, rfl, rfl, J⟩
  have H : Own w w7 (Wtr g1 X :: Wtr g2 Y :: []) := H.join J
  clear J
  by_cases hk : kind = 1
  case' pos =>
    subst hk
    go_wp2_with fail
    refine (KS.out _).mono ?_
    rintro e w8 ⟨_, rfl, rfl, J⟩
    have H : Own w w8 (Wtr g1 X :: Wtr g2 Y :: []) := H.join J
    clear J
    rw [hX.out]
  case' neg =>
    have hkb : (kind == 1) = false := by simpa using hk
    rw [HK2.out hk]
    clear hk
  all_goals
    go_wp2_with fail
    refine (bytes_any H).mono ?_
    rintro e w9 ⟨rfl, rfl⟩
    go_wp2_with fail
    refine (bytes_any H.swap).mono ?_
    rintro e w9 ⟨rfl, rfl⟩
    obtain ⟨x, hx⟩ : ∃ x, textOf X = x := ⟨_, rfl⟩
    obtain ⟨y, hy⟩ : ∃ y, textOf Y = y := ⟨_, rfl⟩
    have hxs := HXS.out
    have hys := HYS.out
    have hxa := HXA.out
    have hxb := HXB.out
    have hxw := HXW.out
    have hxe := HXE.out
    have hye := HYE.out
    rw [hx] at hxs hxa hxe ⊢
    rw [hy] at hys hxb hye ⊢
    clear hx hy
    have hxa2 : ∀ h : 0 < x.size, x[0]'h = xa := fun h => by rw [getElem?_pos x 0 h] at hxa; exact Option.some.inj hxa
    have hxb2 : ∀ h : 0 < y.size, y[0]'h = xb := fun h => by rw [getElem?_pos y 0 h] at hxb; exact Option.some.inj hxb
    clear hxa hxb
    have hnI : (0 : Int) < (n : Int) := by omega
    have hn0 : 0 < n := by omega
    have hn1I : (1 : Int) ≤ (n : Int) := by omega
    go_upto_region 9 with (fail)
    refine wp_region_calm (fun w1 => Own w w1 (Wtr g1 X :: Wtr g2 Y :: [])) 38 (by kernel_rfl) (by kernel_rfl) H.drew ?_
    simp only [List.take_succ_cons, List.take_zero, List.drop_succ_cons, List.drop_zero]
    repeat
      first
      | (refine calm_value (v := ?_) (by decide) rfl (fun σ w1 hS => ?_) ?_
         rotate_left
         · skip
           first | (go_simp; rfl) | rfl
         simp only [Act.put, List.setIfInBounds_toArray, List.set_cons_zero, List.set_cons_succ])
      | (refine calm_skip (by decide) rfl ?_
         simp only [Act.put, List.setIfInBounds_toArray, List.set_cons_zero, List.set_cons_succ])
    refine calm_call (v := .int .i64 X.length) (by decide) rfl (fun w1 => (by go_simp; exact ⟨rfl, rfl⟩)) (fun σ w1 hS => ?_) ?_
    · refine (len_any hS).mono ?_
      rintro e _ ⟨rfl, rfl⟩
      exact ⟨rfl, hS⟩
    simp only [Act.put, List.setIfInBounds_toArray, List.set_cons_zero, List.set_cons_succ]
    refine calm_call (v := .int .i64 X.length) (by decide) rfl (fun w1 => (by go_simp; exact ⟨rfl, rfl⟩)) (fun σ w1 hS => ?_) ?_
    · refine (len_any hS.swap).mono ?_
      rintro e _ ⟨rfl, rfl⟩
      exact ⟨by rw [hXY.out], hS⟩
    simp only [Act.put, List.setIfInBounds_toArray, List.set_cons_zero, List.set_cons_succ]
    repeat
      first
      | (refine calm_value (v := ?_) (by decide) rfl (fun σ w1 hS => ?_) ?_
         rotate_left
         · skip
           first | (go_simp; rfl) | rfl
         simp only [Act.put, List.setIfInBounds_toArray, List.set_cons_zero, List.set_cons_succ])
      | (refine calm_skip (by decide) rfl ?_
         simp only [Act.put, List.setIfInBounds_toArray, List.set_cons_zero, List.set_cons_succ])
    refine calm_call (v := .bool true) (by decide) rfl (fun w1 => (by go_simp; exact ⟨rfl, rfl⟩)) (fun σ w1 hS => ?_) ?_
    · refine (awake_any _).mono ?_
      rintro e w2 ⟨_, rfl, rfl, J⟩
      exact ⟨rfl, hS.join J⟩
    simp only [Act.put, List.setIfInBounds_toArray, List.set_cons_zero, List.set_cons_succ]
    repeat
      first
      | (refine calm_value (v := ?_) (by decide) rfl (fun σ w1 hS => ?_) ?_
         rotate_left
         · skip
           first | (go_simp; rfl) | rfl
         simp only [Act.put, List.setIfInBounds_toArray, List.set_cons_zero, List.set_cons_succ])
      | (refine calm_skip (by decide) rfl ?_
         simp only [Act.put, List.setIfInBounds_toArray, List.set_cons_zero, List.set_cons_succ])
    refine calm_nil ?_
    intro wd HD
    clear H
    go_wp2_with fail
    go_ret
    exact ⟨_, rfl, rfl, HD.bare⟩

theorem shorter_le (a b : ByteArray) : (shorter a b).size ≤ a.size ∧ (shorter a b).size ≤ b.size ∧ (shorter a b = a ∨ shorter a b = b) := by
  unfold shorter
  split
  · exact ⟨by omega, by omega, .inr rfl⟩
  · exact ⟨by omega, by omega, .inl rfl⟩
theorem pack_le (s : ByteArray) : (packF s).size ≤ (textOf (storeF s)).size ∧ (packF s).size ≤ (simpleF s).size ∧ (packF s).size ≤ (richF s).size ∧ (packF s = textOf (storeF s) ∨ packF s = simpleF s ∨ packF s = richF s) := by
  have h1 := shorter_le (textOf (storeF s)) (simpleF s)
  have h2 := shorter_le (shorter (textOf (storeF s)) (simpleF s)) (richF s)
  unfold packF
  refine ⟨by omega, by omega, by omega, ?_⟩
  rcases h2.2.2 with h | h
  · rw [h]
    rcases h1.2.2 with h3 | h3
    · exact .inl h3
    · exact .inr (.inl h3)
  · exact .inr (.inr h)
theorem store_size {s : ByteArray} (h : s.size ≤ 65535) : (textOf (storeF s)).size = s.size + 5 := by
  unfold storeF
  rw [storeB_last h, textOf_size]
  unfold chunkB
  simp only [List.length_append, bitsOf_length, textBits_length, aligned_length]
  simp [headB, bitsOf_length, nbytes]
  omega
set_option maxRecDepth 100000 in
set_option maxHeartbeats 6400000 in
theorem lawpacks_any (s : ByteArray) (w : World) : Calls Try.prog 9 #[.string s] w (Ret fun r w' => r = .bool true ∧ Own w w' []) := by
  have H := Own.start w
  go_enter Try.func9, Try.ntmps9
  go_wp2_with fail
  refine (cut_any s _).mono ?_
  rintro e w1 ⟨_, rfl, ⟨t, rfl, ht⟩, H1⟩
  replace H := H.join H1
  clear H1
  obtain ⟨h1, h2, h3, h4⟩ := pack_le t
  have h5 := store_size (s := t) (by omega)
  have kp := fun w => pack_any (w := w) t (by omega)
  have k1 := fun w => store_any (w := w) t (by omega)
  have k2 := fun w => simple_any (w := w) t (by omega)
  have k3 := fun w => richT_any (w := w) t (by omega)
  obtain ⟨P, hP⟩ : ∃ P, packF t = P := ⟨_, rfl⟩
  obtain ⟨A, hA⟩ : ∃ A, textOf (storeF t) = A := ⟨_, rfl⟩
  obtain ⟨B, hB⟩ : ∃ B, simpleF t = B := ⟨_, rfl⟩
  obtain ⟨C, hC⟩ : ∃ C, richF t = C := ⟨_, rfl⟩
  rw [hP] at h1 h2 h3 h4 kp
  rw [hA] at h1 h4 h5 k1
  rw [hB] at h2 h4 k2
  rw [hC] at h3 h4 k3
  have KP := Lib.hid kp
  have K1 := Lib.hid k1
  have K2 := Lib.hid k2
  have K3 := Lib.hid k3
  have z1 : (P.size : Int) ≤ (A.size : Int) := by omega
  have z2 : (P.size : Int) ≤ (B.size : Int) := by omega
  have z3 : (P.size : Int) ≤ (C.size : Int) := by omega
  have z4 : (P.size : Int) ≤ (t.size : Int) + 5 := by omega
  have zw : IntKind.i64.wrap ((t.size : Int) + 5) = (t.size : Int) + 5 := IntWalk.i64_in _ ⟨by omega, by omega⟩
  have hcase : (P.toList == A.toList) = true ∨ (P.toList == A.toList) = false ∧ (P.toList == B.toList) = true ∨ (P.toList == A.toList) = false ∧ (P.toList == B.toList) = false ∧ (P.toList == C.toList) = true := by
    rw [str_eq, str_eq, str_eq]
    by_cases e1 : P = A
    · left; simp [e1]
    · by_cases e2 : P = B
      · right; left; simp [e1, e2]; rw [← e2]; exact e1
      · right; right
        have e3 : P = C := by rcases h4 with h | h | h; exact absurd h e1; exact absurd h e2; exact h
        exact ⟨by simp [e1], by simp [e2], by simp [e3]⟩
  have n1 : P.size ≤ A.size := h1
  have n2 : P.size ≤ B.size := h2
  have n3 : P.size ≤ C.size := h3
  clear kp k1 k2 k3 hP hA hB hC h4 h5 h1 h2 h3
  go_wp2_with fail
  refine (KP.out _).mono ?_
  rintro e w2 ⟨_, rfl, rfl, J⟩
  replace H := H.join J
  clear J
  go_wp2_with fail
  refine (K1.out _).mono ?_
  rintro e w3 ⟨_, rfl, rfl, J⟩
  replace H := H.join J
  clear J
  go_wp2_with fail
  refine (K2.out _).mono ?_
  rintro e w4 ⟨_, rfl, rfl, J⟩
  replace H := H.join J
  clear J
  go_wp2_with fail
  refine (K3.out _).mono ?_
  rintro e w5 ⟨_, rfl, rfl, J⟩
  replace H := H.join J
  clear J
  rcases hcase with e1 | ⟨e1, e2⟩ | ⟨e1, e2, e3⟩
  all_goals
    go_wp2_with fail
    refine (K3.out _).mono ?_
    rintro e w6 ⟨_, rfl, rfl, J⟩
    replace H := H.join J
    clear J
    go_wp2_with fail
    refine (awake_any _).mono ?_
    rintro e w7 ⟨_, rfl, rfl, J⟩
    replace H := H.join J
    clear J
    go_wp2_with fail
    go_ret
    exact ⟨_, rfl, rfl, H.bare⟩
end Go.Proofs.Yteoecchggjmffaa
