/-
  huff: the walk of Lengths: the rows.
-/
import Derived.Test.YtfeamlbkogigkaaHufE
namespace Go.Proofs.Ytfeamlbkogigkaa
open Go.RowKit

theorem crowInfo : (Try.prog.info? 63).map (fun i => (i.zero, i.size, i.bytes)) = some (some (.slice none 0 0), 1, 24) := by kernel_rfl
theorem rows_map_one (F : List Int) (z : Nat) : ce (coinOf F z) = [.int .i64 (F.getD z 0), .bool false] := rfl

set_option maxRecDepth 100000 in
set_option maxHeartbeats 12800000 in
theorem len_tail22 {w wr : World} {base : List Coin} {v : Value} {F syms o R : List Int} {L N n B og oc sg sc : Nat} {er : Int} (hb : Hid (Base base)) (hbe : Hid (syms.map (coinOf F) = base)) (hN : Hid (base.length = N)) (h2 : 2 ≤ N) (hN3 : N ≤ 320) (hL1 : 1 ≤ L) (hL2 : L ≤ 15) (hn : n ≤ 320) (ho : Hid (o.length = n)) (hz : Hid (∀ s, o.getD s 0 = 0))
    (hsl : Hid (syms.length = N)) (hnd : Hid syms.Nodup) (hin : Hid (∀ x ∈ syms, ∃ s : Nat, x = s ∧ s < n)) (hpow : Hid (N ≤ 2 ^ L)) (he : er = 0) (hR : Hid (outF syms (cntF base (L - 1) (2 * N - 2)) o = R)) (hr : Hid (Rd w 1 v n (nums F))) (hF : Hid (∀ c ∈ base, c.w ≤ 4294967296))
    (z0 z3 z4 z5 z6 z8 z9 z11 z12 z13 z14 z15 z16 z17 z18 z19 z20 z21 z22 z23 z24 z25 z26 z27 z28 z29 z30 z31 z32 z33 z34 z35 z36 z37 z38 z39 z40 z41 z42 z43 z44 z45 z46 z47 z48 z49 z50 z51 z52 z53 z54 z55 z56 z57 z58 z59 z60 z61 z62 z63 z64 z65 z66 z67 z68 z69 z70 z71 z72 z73 z74 z75 z76 z77 z78 z79 z80 z81 z82 z83 z84 z85 z86 z87 z88 z89 z90 z91 z92 z93 z94 z95 z96 z97 z98 z99 z100 z101 z102 z103 z104 z105 z106 z107 z108 z109 z110 z111 z112 z113 z114 z115 z116 z117 z118 z119 z120 z121 z122 z123 z124 z125 z126 z127 z128 z129 z130 z131 z132 z133 z134 z135 z136 z137 z138 z139 z140 z141 z142 z143 z144 z145 z146 z147 z148 : Value)
    (H : Own w wr (slc 3 1 (.slice (some ⟨og, 0, none⟩) n oc) n (nums o) :: slc 3 1 (.slice (some ⟨sg, 0, none⟩) N sc) N (nums syms) :: blk B (.cells #[v] 22) :: [])) :
    Code.wp Try.prog (lenTail 22) (bodyPost Try.prog Try.f11 (Ret fun r w' => ∃ ov, r = .tuple #[ov, .int .i64 er] ∧ Own w w' [slc 3 1 ov n (nums R)]))
      ⟨#[z0, .int .i64 L, .pointer (some ⟨B, 0, none⟩), z3, z4, z5, z6, .slice (some ⟨sg, 0, none⟩) N sc, z8, z9, .slice (some ⟨og, 0, none⟩) n oc, z11, z12, z13, z14, z15, z16, z17, z18, z19, z20, z21, z22, z23, z24, z25, z26, z27, z28, z29, z30, z31, z32, z33, z34, z35, z36, z37, z38, z39, z40, z41, z42, z43, z44, z45, z46, z47, z48, z49, z50, z51, z52, z53, z54, z55, z56, z57, z58, z59, z60, z61, z62, z63, z64, z65, z66, z67, z68, z69, z70, z71, z72, z73, z74, z75, z76, z77, z78, z79, z80, z81, z82, z83, z84, z85, z86, z87, z88, z89, z90, z91, z92, z93, z94, z95, z96, z97, z98, z99, z100, z101, z102, z103, z104, z105, z106, z107, z108, z109, z110, z111, z112, z113, z114, z115, z116, z117, z118, z119, z120, z121, z122, z123, z124, z125, z126, z127, z128, z129, z130, z131, z132, z133, z134, z135, z136, z137, z138, z139, z140, z141, z142, z143, z144, z145, z146, z147, z148], []⟩ wr := by
  conv => arg 2; whnf
  dsimp only
  have hFl : Hid (F.length = n) := Lib.hid (by have := hr.out.len; rw [nums_length] at this; omega)
  obtain ⟨x0, hx0⟩ := get_of_lt (l := syms) (k := 0) (by have := hsl.out; omega)
  obtain ⟨z0', _, hz0'⟩ := hin.out x0 (List.mem_of_getElem? hx0)
  obtain ⟨fb, fo, fc, rfl, hc1, hc2⟩ := hr.out.some (by rw [nums_length]; have := hFl.out; omega)
  clear hx0
  have H := (H.nil 65 2)
  have hwL : IntKind.i64.wrap ((L : Int) - 1) = (L : Int) - 1 := IntWalk.i64_in _ ⟨by omega, by omega⟩
  go_wp2_with fail
  go_loopw [13, 80] (fun s13 s80 wx => ∃ k : Nat, s80 = .int .i64 k ∧ k ≤ N ∧ Own w wx (slc 65 2 s13 k (rows ce ((syms.take k).map (coinOf F))) :: slc 3 1 (.slice (some ⟨og, 0, none⟩) n oc) n (nums o) :: slc 3 1 (.slice (some ⟨sg, 0, none⟩) N sc) N (nums syms) :: blk B (.cells #[.slice (some ⟨fb, fo, none⟩) n fc] 22) :: [])) (fun _ s80 _ => N - (intOf s80).toNat)
  case atStart => exact ⟨0, by go_num, by omega, by simpa [rows] using H⟩
  case round =>
    clear H
    obtain ⟨k, rfl, hk, H⟩ := hrel
    by_cases hlt : k < N
    · obtain ⟨x, hx⟩ := get_of_lt (l := syms) (k := k) (by have := hsl.out; omega)
      obtain ⟨z, rfl, hz2⟩ := hin.out x (List.mem_of_getElem? hx)
      have hst : rows ce ((syms.take k).map (coinOf F)) ++ ce (coinOf F z) = rows ce ((syms.take (k + 1)).map (coinOf F)) := by
        rw [List.take_add_one, hx, List.map_append, rows_append]; rfl
      have c2 := (H.front 2 rfl).rd.cell (nums_get hx)
      have c3 := (H.front 3 rfl).cells
      have c1 := (hr.out.old H).cell (j := z) (nums_get (List.getElem?_eq_getElem (by have := hFl.out; omega)))
      rw [show F[z]'(by have := hFl.out; omega) = F.getD z 0 by rw [List.getD_eq_getElem?_getD, List.getElem?_eq_getElem (by have := hFl.out; omega)]; rfl] at c1
      rw [Nat.zero_add] at c2
      rw [rows_map_one] at hst
      have HST := Lib.hid hst
      obtain ⟨y, hy⟩ : ∃ y, Hid (F.getD z 0 = y) := ⟨_, rfl⟩
      rw [hy.out] at c1 HST
      have hkI : (k : Int) < (N : Int) := by omega
      have hzI : (z : Int) < (n : Int) := by omega
      clear hst hx
      go_wp2_with (at_builtin; refine wpList_append_one rfl _ _ rfl Try.underlying63 coinInfo rfl (by decide) rfl H (news := [.int .i64 y, .bool false]) rfl rfl rfl (by simp [Value.oneCell']) (by omega) (by omega) ?_; clear H c1 c2 c3; intro v' w' H; rw [HST.out] at H)
      go_roundw
      case rel => exact ⟨k + 1, by go_num, by omega, H⟩
      case measure => simp [intOf]; omega
    · obtain rfl : k = N := by omega
      rw [List.take_of_length_le (by have := hsl.out; omega), hbe.out] at H
      obtain ⟨bg, bc, rfl, hd1, hd2, -⟩ := H.at (by rw [rows_length ce SC.e_length, hN.out]; omega)
      obtain ⟨bv, hbv⟩ : ∃ bv, Hid (Value.slice (some ⟨bg, 0, none⟩) k bc = bv) := ⟨_, rfl⟩
      have hkI : ¬ (k : Int) < (k : Int) := by omega
      go_upto_region 29 with (fail)
      replace H := (H.alloc (.cells #[.slice (some ⟨bg, 0, none⟩) k bc] 63)).slc_mk (xs := [.slice (some ⟨bg, 0, none⟩) k bc]) (n := 1) (size := 1) rfl (Nat.le_refl _) (by decide) rfl rfl
      generalize wr.alloc (.cells #[.slice (some ⟨bg, 0, none⟩) k bc] 63) = w0 at *
      generalize wr.heap.size = rg0 at *
      have H : Own w w0 (slc 63 1 (.slice (some ⟨rg0, 0, none⟩) (0 + 1) 1) (0 + 1) ((List.range (0 + 1)).map (fun _ => Value.slice (some ⟨bg, 0, none⟩) k bc)) :: slc 3 1 (.slice (some ⟨og, 0, none⟩) n oc) n (nums o) :: slc 3 1 (.slice (some ⟨sg, 0, none⟩) k sc) k (nums syms) :: rowPs base (fun _ => Value.slice (some ⟨bg, 0, none⟩) k bc) (0 + 1)) := by
        have e : slc 65 2 (.slice (some ⟨bg, 0, none⟩) k bc) k (rows ce base) = slc 65 2 (.slice (some ⟨bg, 0, none⟩) k bc) (rowsF base 0).length (rows ce (rowsF base 0)) := by
          show _ = slc 65 2 _ base.length _
          rw [hN.out]; rfl
        rw [e] at H
        exact (((((H.front 3 rfl).front 3 rfl).front 2 rfl).front 4 rfl).drop)
      go_upto_block 6 with (fail)
      go_cut [16] (fun s16 wx => ∃ (rg rc : Nat) (f : Nat → Value), s16 = .slice (some ⟨rg, 0, none⟩) L rc ∧ Hid (f 0 = .slice (some ⟨bg, 0, none⟩) k bc) ∧ Own w wx (slc 63 1 (.slice (some ⟨rg, 0, none⟩) L rc) L ((List.range L).map f) :: slc 3 1 (.slice (some ⟨og, 0, none⟩) n oc) n (nums o) :: slc 3 1 (.slice (some ⟨sg, 0, none⟩) k sc) k (nums syms) :: rowPs base f L))
      case first =>
        go_wp2_with fail
        go_loopw [16, 97] (fun s16 s97 wx => ∃ (i rg rc : Nat) (f : Nat → Value), s97 = .int .i64 i ∧ i + 1 ≤ L ∧ s16 = .slice (some ⟨rg, 0, none⟩) (i + 1) rc ∧ Hid (f 0 = .slice (some ⟨bg, 0, none⟩) k bc) ∧ Own w wx (slc 63 1 (.slice (some ⟨rg, 0, none⟩) (i + 1) rc) (i + 1) ((List.range (i + 1)).map f) :: slc 3 1 (.slice (some ⟨og, 0, none⟩) n oc) n (nums o) :: slc 3 1 (.slice (some ⟨sg, 0, none⟩) k sc) k (nums syms) :: rowPs base f (i + 1))) (fun _ s97 _ => L - (intOf s97).toNat)
        case atStart => exact ⟨0, rg0, 1, _, by go_num, hL1, rfl, Lib.hid rfl, H⟩
        case round =>
          clear H
          obtain ⟨i, rg, rc, f, rfl, hi, rfl, hf0, H⟩ := hrel
          by_cases hlt : i + 1 < L
          · have hbase : Rd wr 2 (f 0) (rowsF base 0).length (rows ce (rowsF base 0)) := (H.front (3 + (i + 1 - 1 - 0)) (by
              rw [Nat.add_comm 3]
              simp only [List.getElem?_cons_succ]
              exact rowPs_get base f (i + 1) 0 (by omega))).rd
            have hlast : Rd wr 2 (f i) (rowsF base i).length (rows ce (rowsF base i)) := (H.front 3 rfl).rd
            have hbl : (rowsF base 0).length = k := hN.out
            have hll : (rowsF base i).length ≤ 1000 := by have := rowsF_len_le base i; have := hN.out; omega
            have hbw : ∀ c ∈ rowsF base i, 0 ≤ c.w ∧ c.w ≤ 1000000000000000000 := fun c hc => by
              have h1 := rowsF_pos hb.out i c hc
              have h2 := rowsF_le i 4294967296 (by omega) hF.out c hc
              have h3 : (2 : Int) ^ i ≤ 2 ^ 14 := by
                have : (2 : Nat) ^ i ≤ 2 ^ 14 := Nat.pow_le_pow_right (by omega) (by omega)
                exact_mod_cast this
              have h4 := Int.mul_le_mul_of_nonneg_right h3 (show (0 : Int) ≤ 4294967296 by omega)
              omega
            obtain ⟨fa, fcp, hfi, hf1, hf2⟩ := hlast.shape
            have hc := row_any hbase hlast (by rw [hbl]; omega) (by rw [hbl]; omega) hll hbw
            have e1 : rowF (rowsF base 0) (rowsF base i) = rowsF base (i + 1) := rfl
            rw [e1] at hc
            obtain ⟨_, _, he, hr1, hr2, -⟩ := H.at (by simp)
            cases he
            have c0 : wr.cell? ⟨rg, i, none⟩ = some (f i) := by
              have := H.rd.cell (j := i) (u := f i) (by simp)
              simpa using this
            rw [hf0.out] at hc
            rw [hfi] at c0 hc
            have HC := Lib.hid hc
            obtain ⟨ln, hln⟩ : ∃ ln, (rowsF base i).length = ln := ⟨_, rfl⟩
            rw [hln] at c0 HC
            have hiI : (i : Int) < ((L : Int) - 1) := by omega
            clear hc hbase hlast hbl hll hbw e1 hfi hln hf1 hf2
            go_wp2_with fail
            refine HC.out.mono ?_
            rintro e w1 ⟨r, rfl, H1⟩
            obtain ⟨ra, rcp, rfl, -⟩ := H1.rd.shape
            have H := (H.join H1).swap
            clear HC H1 c0
            obtain ⟨rv, hrv⟩ : ∃ rv, Hid (Value.slice ra (rowsF base (i + 1)).length rcp = rv) := ⟨_, rfl⟩
            obtain ⟨rl, hrl⟩ : ∃ rl, Hid ((rowsF base (i + 1)).length = rl) := ⟨_, rfl⟩
            rw [hrl.out] at hrv H ⊢
            go_wp2_with (at_builtin; refine wpList_append_one rfl _ _ rfl Try.underlying66 crowInfo rfl (by decide) rfl H (news := [.slice ra rl rcp]) rfl rfl rfl (by simp [Value.oneCell']) (by omega) (by omega) ?_; clear H; intro v' w' H; obtain ⟨rg2, rc2, rfl, -⟩ := H.at (by simp))
            rw [hrv.out] at H
            go_roundw
            case rel =>
              refine ⟨i + 1, rg2, rc2, fun j => if j = i + 1 then rv else f j, by go_num, by omega, rfl, Lib.hid (by show (if 0 = i + 1 then rv else f 0) = _; rw [if_neg (by omega)]; exact hf0.out), ?_⟩
              have e1 : (List.range (i + 1)).map f ++ [rv] = (List.range (i + 1 + 1)).map (fun j => if j = i + 1 then rv else f j) := by
                rw [List.range_succ (n := i + 1), List.map_append]
                congr 1
                · refine List.map_congr_left fun j hj => ?_
                  rw [if_neg (by have := List.mem_range.1 hj; omega)]
                · simp
              have e2 : rowPs base (fun j => if j = i + 1 then rv else f j) (i + 1 + 1) = slc 65 2 rv (rowsF base (i + 1)).length (rows ce (rowsF base (i + 1))) :: rowPs base f (i + 1) := by
                rw [rowPs, if_pos rfl, rowPs_congr base _ f (i + 1) fun j hj => by rw [if_neg (by omega)]]
              rw [← e1, e2]
              rw [hrl.out]
              exact ((((H.front 3 rfl).front 3 rfl).front 2 rfl))
            case measure => simp [intOf]; omega
          · have hLi : i + 1 = L := by omega
            rw [hLi] at H ⊢
            have hiI : ¬ (i : Int) < (L : Int) - 1 := by omega
            clear hLi hi hlt
            go_wp2_with fail
            go_meet
            exact ⟨rg, rc, f, rfl, hf0, H⟩
      case rest =>
        clear H
        obtain ⟨rg, rc, f, rfl, hf0, H⟩ := hcut
        apply_assumption
        have hb0 := hf0.out
        rw [← hb0]
        exact len_tail33 (n := n) hb hN h2 hN3 hL1 hL2 hn ho hz hsl hnd hin hpow he hR ⟨_, _, hb0⟩ _ _ _ _ _ _ _ _ _ _ _ _ _ _ _ _ _ _ _ _ _ _ _ _ _ _ _ _ _ _ _ _ _ _ _ _ _ _ _ _ _ _ _ _ _ _ _ _ _ _ _ _ _ _ _ _ _ _ _ _ _ _ _ _ _ _ _ _ _ _ _ _ _ _ _ _ _ _ _ _ _ _ _ _ _ _ _ _ _ _ _ _ _ _ _ _ _ _ _ _ _ _ _ _ _ _ _ _ _ _ _ _ _ _ _ _ _ _ _ _ _ _ _ _ _ _ _ _ _ _ _ _ _ _ _ _ _ _ _ _ _ _ _ _ H
end Go.Proofs.Ytfeamlbkogigkaa
