/-
  lz: the walk of the document's Expand.
-/
import Derived.Test.YteblnmealnmipaaLzY
namespace Go.Proofs.Yteblnmealnmipaa
open Go.RowKit

set_option maxRecDepth 100000 in
set_option maxHeartbeats 3200000 in
theorem refexpand_any {w : World} {v : Value} (l : List Tok) (most : Int) (hR : Rd w 3 v l.length (rows tcell l)) (hl : l.length ≤ 3000) :
    Calls Try.prog 14 #[v, .int .i64 most] w (Ret fun r w' => r = resVal (exp most l []) ∧ Own w w' []) := by
  obtain ⟨R, hRR⟩ : ∃ R, Hid (exp most l [] = R) := ⟨_, rfl⟩
  rw [hRR.out]
  obtain ⟨N, hN⟩ : ∃ N, Hid (l.length = N) := ⟨_, rfl⟩
  rw [hN.out] at hR hl
  have HR := Lib.hid hR
  obtain ⟨a, c, rfl, hc1, hc2⟩ := hR.shape
  clear hR
  have H := (Own.start w).nil 5 1
  go_enter Try.func14, Try.ntmps14
  go_wp2_with fail
  go_loopw [6, 7] (fun s6 s11 wr => ∃ (k : Nat) (out : List Int), s11 = .int .i64 k ∧ k ≤ N ∧ Hid (exp most (l.drop k) out = R) ∧ out.length ≤ 258 * k ∧ Own w wr [slc 5 1 s6 out.length (bcells out)]) (fun _ s11 _ => N - (intOf s11).toNat)
  case atStart => exact ⟨0, [], by simp, by omega, hRR, by simp, H⟩
  case round =>
    clear H
    obtain ⟨k, out, rfl, hk, hex, hol, H⟩ := hrel
    by_cases hkN : k < N
    · have hkI : (k : Int) < (N : Int) := by omega
      obtain ⟨t, ht⟩ : ∃ t, l[k]? = some t := ⟨l[k]'(by rw [hN.out]; exact hkN), List.getElem?_eq_getElem _⟩
      have hdrop : l.drop k = t :: l.drop (k + 1) := by
        obtain ⟨hk', rfl⟩ := List.getElem?_eq_some_iff.1 ht
        exact List.drop_eq_getElem_cons hk'
      have hex' := hex.out
      rw [hdrop, exp] at hex'
      clear hex hdrop
      obtain ⟨b, o, c', he, hc1', hc2', hcell⟩ := HR.out.at (by rw [HR.out.len]; omega)
      cases he
      have HT := Lib.hid ht
      clear ht hcell
      obtain ⟨c1, c2, c3⟩ := tok_cells (HR.out.old H) HT.out
      obtain ⟨x, y, z⟩ := t
      simp only at c1 c2 c3
      obtain ⟨n, hn⟩ : ∃ n, Hid (out.length = n) := ⟨_, rfl⟩
      rw [hn.out] at H hol hex'
      obtain ⟨a', d', rfl, hd1, hd2⟩ := H.rd.shape
      go_upto_region 6 with (refine wpList_store_agg rfl _ _ rfl rfl (H.alloc _) rfl (by kernel_rfl) (by simp) (by simp; exact ⟨rfl, rfl, rfl⟩) rfl ?_; clear H; intro w5 H)
      generalize wr.heap.size = cb at *
      have H : Own w w5 (blk cb (.cells #[.int .i64 x, .int .i64 y, .int .i64 z] 36) :: [slc 5 1 (.slice a' n d') n (bcells out)]) := H
      clear c1 c2 c3
      have c0 := H.cells
      go_wp2_with fail
      refine (may_any ⟨x, y, z⟩ n w5).mono ?_
      rintro e w6 ⟨_, rfl, rfl, H6⟩
      replace H := H.join H6
      have H : Own w w6 (blk cb (.cells #[.int .i64 x, .int .i64 y, .int .i64 z] 36) :: [slc 5 1 (.slice a' n d') n (bcells out)]) := H
      clear H6 c0
      have c0 := H.cells
      obtain ⟨mb, hmb⟩ : ∃ mb, Hid (may ⟨x, y, z⟩ n = mb) := ⟨_, rfl⟩
      rw [hmb.out] at hex' ⊢
      cases mb with
      | false =>
        rw [if_pos rfl] at hex'
        have hfin := Lib.hid hex'
        clear hex'
        go_wp2
        go_ret2
        exact ⟨_, rfl, by rw [← hfin.out]; rfl, H.bare⟩
      | true =>
        rw [if_neg (by simp)] at hex'
        obtain ⟨r, hr⟩ : ∃ r, Hid (IntKind.i64.wrap (most - (n : Int)) = r) := ⟨_, rfl⟩
        have hrw := hr.out
        rw [hrw] at hex'
        obtain ⟨m, rfl⟩ : ∃ m : Nat, x = m := by
          by_cases hx0 : x = 0
          · exact ⟨0, by omega⟩
          · have := may_back hmb.out hx0; exact ⟨x.toNat, by omega⟩
        obtain ⟨d, rfl⟩ : ∃ d : Nat, y = d := by
          by_cases hx0 : (m : Int) = 0
          · have := may_lit hmb.out hx0; exact ⟨0, by omega⟩
          · have := may_back hmb.out hx0; exact ⟨y.toNat, by omega⟩
        have hM : Hid ((m = 0 ∧ d = 0 ∧ 0 ≤ z ∧ z < 256) ∨ (z = 0 ∧ 3 ≤ m ∧ m ≤ 258 ∧ 1 ≤ d ∧ d ≤ n)) := Lib.hid (by
          by_cases hx0 : (m : Int) = 0
          · have := may_lit hmb.out hx0; left; omega
          · have := may_back hmb.out hx0; right; omega)
        have herr : R = .err 12 → ∀ wz, Own w wz [blk cb (.cells #[.int .i64 m, .int .i64 d, .int .i64 z] 36), slc 5 1 (.slice a' n d') n (bcells out)] → ∃ v, Ending.returned (.tuple #[.string ⟨#[]⟩, .int .i64 12]) = .returned v ∧ v = resVal R ∧ Own w wz [] := fun h wz hz => ⟨_, rfl, by rw [h]; rfl, hz.bare⟩
        have HE := Lib.hid herr
        clear herr
        by_cases hm0 : m = 0
        case pos =>
          have hmz : ((m : Int) == 0) = true := by simp [hm0]
          have hm1 : (m : Int) < 1 := by omega
          rw [show max (m : Int) 1 = 1 by omega, if_pos (show (m : Int) = 0 by omega)] at hex'
          by_cases hlim : r < 1
          case' pos =>
            rw [if_pos hlim] at hex'
            have hfin := Lib.hid hex'.symm
            clear hex' hm0
            go_wp2
            go_ret2
            exact HE.out hfin.out _ H
          rw [if_neg hlim] at hex'
          have hwz : IntKind.u8.wrap z = z := by rw [IntKind.wrap_u8]; have := hM.out; omega
          have hE : Hid (exp most (l.drop (k + 1)) (out ++ [z]) = R) := Lib.hid hex'
          have hlen : Hid ((out ++ [z]).length = n + 1) := Lib.hid (by rw [List.length_append, hn.out]; rfl)
          clear hex' hm0 hM hr HE
          go_wp2_with (at_builtin; refine wpList_append_one rfl _ _ rfl Try.underlying38 u8Info rfl (by decide) rfl H.swap (news := [.int .u8 z]) rfl rfl rfl (by simp [Value.oneCell']) (by omega) (by omega) ?_; clear H c0; intro v' w7 H; replace H := H.swap; have c0 := H.cells)
          rw [bcells_snoc] at H
          go_roundw
          case rel =>
            refine ⟨k + 1, out ++ [z], by go_num, by omega, hE, by rw [hlen.out]; omega, ?_⟩
            rw [hlen.out]
            exact H.drop
          case measure => simp [intOf]; omega
        case' neg =>
          have hmz : ((m : Int) == 0) = false := by simp; omega
          have hm1 : ¬ (m : Int) < 1 := by omega
          rw [show max (m : Int) 1 = m by omega, if_neg (show ¬ (m : Int) = 0 by omega)] at hex'
          by_cases hlim : r < m
          case' pos =>
            rw [if_pos hlim] at hex'
            have hfin := Lib.hid hex'.symm
            clear hex' hm0
            go_wp2
            go_ret2
            exact HE.out hfin.out _ H
          rw [if_neg hlim] at hex'
          have hE : Hid (exp most (l.drop (k + 1)) (copyN d out m) = R) := Lib.hid (by simpa using hex')
          have hdn : Hid (m = 0 ∨ (1 ≤ d ∧ d ≤ n)) := Lib.hid (by have := hM.out; omega)
          have hn1 : n + m ≤ 258 * (k + 1) := by have := hM.out; omega
          have hlen : Hid (out.length = n) := hn
          clear hex' hm0 hM hr HE
          go_upto_region 15 with (fail)
          clear hlim
          generalize (Value.slice a' n d') = v' at *
          generalize out = out1 at *
          generalize n = n1 at *
        all_goals
          clear hm1 hmz
          go_wp2_with fail
          go_loopw [6, 10] (fun s6 s39 wr => ∃ j : Nat, s39 = .int .i64 j ∧ j ≤ m ∧ Own w wr [blk cb (.cells #[.int .i64 m, .int .i64 d, .int .i64 z] 36), slc 5 1 s6 (n1 + j) (bcells (copyN d out1 j))]) (fun _ s39 _ => m - (intOf s39).toNat)
          case atStart => exact ⟨0, by simp, by omega, H⟩
          case round =>
            clear H c0
            obtain ⟨j, rfl, hj, H⟩ := hrel
            by_cases hjm : j < m
            · have hjI : (j : Int) < (m : Int) := by omega
              have hd1 : 1 ≤ d := by have := hdn.out; omega
              have hd2 : d ≤ n1 := by have := hdn.out; omega
              have hcl : (copyN d out1 j).length = n1 + j := by rw [copyN_length, hlen.out]
              obtain ⟨L, hL⟩ : ∃ L, Hid (n1 + j = L) := ⟨_, rfl⟩
              rw [hL.out] at H hcl
              have hLb : L ≤ 800000 := by have := hL.out; omega
              obtain ⟨q, hq⟩ : ∃ q, Hid (L - d = q) := ⟨_, rfl⟩
              have hdL : d ≤ L := by have := hL.out; omega
              have hqI : (L : Int) - (d : Int) = (q : Int) := by have := hq.out; omega
              have hqL : q < L := by have := hq.out; omega
              have hqLI : (q : Int) < (L : Int) := by omega
              obtain ⟨x, hx⟩ : ∃ x, (copyN d out1 j)[q]? = some x := ⟨_, List.getElem?_eq_getElem (by omega)⟩
              have hnx : Hid (copyN d out1 (j + 1) = copyN d out1 j ++ [x]) := Lib.hid (by
                rw [copyN, hcl, hq.out, List.getD_eq_getElem?_getD, hx]; rfl)
              have HX := Lib.hid (bcells_get hx)
              clear hx
              obtain ⟨OJ, hOJ⟩ : ∃ OJ, Hid (copyN d out1 j = OJ) := ⟨_, rfl⟩
              rw [hOJ.out] at H HX hnx
              clear hcl
              obtain ⟨gb, cc, rfl, hg1, hg2, _⟩ := H.swap.at (by rw [bcells_length, ← hOJ.out, copyN_length, hlen.out]; have := hL.out; omega)
              have c0 := H.cells
              have c1 := H.swap.rd.cell HX.out
              rw [Nat.zero_add] at c1
              go_wp2_with (at_builtin; refine wpList_append_one rfl _ _ rfl Try.underlying38 u8Info rfl (by decide) rfl H.swap (news := [.int .u8 x]) rfl rfl rfl (by simp [Value.oneCell']) (by omega) (by omega) ?_; clear H c0 c1; intro v' w7 H; replace H := H.swap)
              go_roundw
              case rel =>
                refine ⟨j + 1, by go_num, by omega, ?_⟩
                rw [hnx.out, ← bcells_snoc, ← Nat.add_assoc, hL.out]
                exact H
              case measure => simp [intOf]; omega
            · have hjI : ¬ (j : Int) < (m : Int) := by omega
              have hjm2 : j = m := by omega
              have hcl : (copyN d out1 m).length = n1 + m := by rw [copyN_length, hlen.out]
              rw [hjm2] at H
              have c0 := H.cells
              go_wp2_with fail
              go_roundw
              case rel =>
                refine ⟨k + 1, copyN d out1 m, by go_num, by omega, hE, by omega, ?_⟩
                rw [hcl]
                exact H.drop
              case measure => simp [intOf]; omega
    · have hkI : ¬ (k : Int) < (N : Int) := by omega
      have hfin : Hid (R = .ok out) := Lib.hid (by rw [← hex.out, List.drop_eq_nil_of_le (by rw [hN.out]; omega), exp])
      clear hex
      obtain ⟨a', d', rfl, hd1, hd2⟩ := H.rd.shape
      have hst := run_string_sep (P := Try.prog) 38 9 Try.underlying38 Try.underlying5 Try.underlying9 (ns := out) H.rd
      go_wp2
      go_ret2
      exact ⟨_, rfl, by rw [hfin.out]; rfl, H.bare⟩
end Go.Proofs.Yteblnmealnmipaa
