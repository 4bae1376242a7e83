/-
  Texts of this claim, one behind the other: inflate; Bits; bits.New; inflate; inflate; inflate; inflate.
-/
import Derived.Test.YtnebacnmbigaaaaIb8
set_option linter.unusedVariables false
/- inflate: the walk of dynamic. -/
namespace Go.Proofs.Ytnebacnmbigaaaa
open Go.RowKit

/-- What dynamic leaves. -/
def DynPost (w0 : World) (ps : List Piece) (g rg : Nat) (s : ByteArray) (out : List Int) (most : Int) (G : Got (List Int × List Int)) (r : Value) (w' : World) : Prop :=
  ∃ ao bo T n' e', r = .tuple #[.pointer ao, .pointer bo] ∧ n' ≤ 8 * s.size ∧ GotR G T n' e' ∧
    (e' = 0 → TabOk T.1 ∧ TabOk T.2 ∧ ∃ a b, ao = some ⟨a, 0, none⟩ ∧ bo = some ⟨b, 0, none⟩ ∧ Own w0 w' (Inr g rg s n' out most 0 :: Tbl a T.1 :: Tbl b T.2 :: ps)) ∧
    (e' ≠ 0 → Own w0 w' (Inr g rg s n' out most e' :: ps))

theorem arr_row {w : World} {g : Nat} {t : TypeId} {X : List Int} (h : w.heap[g]? = some (.cells (nums X).toArray t)) (hX : X.length ≤ 1000000) : Rd w 1 (.slice (some ⟨g, 0, none⟩) X.length X.length) X.length (nums X) := by
  refine ⟨by rw [nums_length]; omega, _, _, rfl, Nat.le_refl _, by unfold maxLen; omega, by simp, fun ad had j u hu => ?_⟩
  obtain rfl := Option.some.inj had
  rw [Addr.add_lit, Nat.zero_add, cell_of_block h, List.getElem?_toArray]
  exact hu
theorem Own.tblo_none {w0 w : World} {ps : List Piece} {v : Value} {l : List Int} (H : Own w0 w (TblO v l :: ps)) (h : terrF l ≠ 0) : v = .pointer none ∧ Own w0 w ps := by
  unfold TblO at H
  rw [if_neg h] at H
  exact H.fact
theorem tab_ok {l : List Int} (h : terrF l = 0) : TabOk l := by
  obtain ⟨h1, h2, h3⟩ := table_ok h
  exact ⟨h2, h3, by omega⟩
/-- A table that may be made already. -/
def optT (l : List Int) : Option Value → List Piece
  | none => []
  | some v => [TblO v l]
/-- The fault behind two tables, of which each may be made already. -/
def eF (l1 l2 : List Int) (e : Int) (a b : Option Value) : Int := if (a.isSome = true ∧ terrF l1 ≠ 0) ∨ (b.isSome = true ∧ terrF l2 ≠ 0) then (if e = 0 then 2 else e) else e
theorem eF_left {l1 l2 : List Int} {e : Int} {a b : Option Value} {v : Value} : eT l1 (eF l1 l2 e a b) = eF l1 l2 e (some v) b := by
  unfold eT eF
  simp only [Option.isSome_some, true_and]
  by_cases h1 : terrF l1 = 0
  · simp [h1]
  · simp only [h1, if_false, ne_eq, not_false_eq_true, and_true, true_or, if_true]
    repeat' split
    all_goals omega
theorem eF_right {l1 l2 : List Int} {e : Int} {a b : Option Value} {v : Value} : eT l2 (eF l1 l2 e a b) = eF l1 l2 e a (some v) := by
  unfold eT eF
  simp only [Option.isSome_some, true_and]
  by_cases h1 : terrF l2 = 0
  · simp [h1]
  · simp only [h1, if_false, ne_eq, not_false_eq_true, and_true, or_true, if_true]
    repeat' split
    all_goals omega
theorem Own.opt_left {w0 w : World} {A B : Piece} {l1 l2 : List Int} {a b : Option Value} {r : Value} {ps : List Piece} (H : Own w0 w (TblO r l1 :: A :: B :: (optT l1 a ++ (optT l2 b ++ ps)))) : Own w0 w (A :: B :: (optT l1 (some r) ++ (optT l2 b ++ ps))) := by
  cases a with
  | none => exact (H.front 2 rfl).front 2 rfl
  | some v => exact (((H.front 3 rfl).drop.front 2 rfl).front 2 rfl)
theorem Own.opt_right {w0 w : World} {A B : Piece} {l1 l2 : List Int} {a b : Option Value} {r : Value} {ps : List Piece} (H : Own w0 w (TblO r l2 :: A :: B :: (optT l1 a ++ (optT l2 b ++ ps)))) : Own w0 w (A :: B :: (optT l1 a ++ (optT l2 (some r) ++ ps))) := by
  cases a with
  | none =>
    cases b with
    | none => exact (H.front 2 rfl).front 2 rfl
    | some v => exact (((H.front 3 rfl).drop.front 2 rfl).front 2 rfl)
  | some u =>
    cases b with
    | none => exact ((H.front 3 rfl).front 3 rfl).front 3 rfl
    | some v => exact ((((H.front 4 rfl).drop.front 3 rfl).front 3 rfl).front 3 rfl)

set_option maxRecDepth 100000 in
set_option maxHeartbeats 3200000 in
theorem indynamic_any {w0 w : World} {ps : List Piece} {g rg n : Nat} {s : ByteArray} {out : List Int} {most : Int} (hs : s.size ≤ 1000000) (hn : n ≤ 8 * s.size) (H : Own w0 w (Inr g rg s n out most 0 :: ps)) :
    Calls Try.prog 33 #[.pointer (some ⟨g, 0, none⟩)] w (Ret (DynPost w0 ps g rg s out most (codesG (textBits s) n))) := by
  obtain ⟨B, hB⟩ : ∃ B, Hid (textBits s = B) := ⟨_, rfl⟩
  obtain ⟨G, hG⟩ : ∃ G, Hid (codesG B n = G) := ⟨_, rfl⟩
  rw [hB.out, hG.out]
  go_enter Try.func33, Try.ntmps33
  have HT := Lib.hid (intake_any 5 (by omega) H hs hn)
  go_wp2_with fail
  refine HT.out.mono ?_
  rintro e w1 ⟨_, rfl, v1, n1, e1, rfl, hv1, hv1', hn1, -, hg1, H1⟩
  replace hg1 := Lib.hid (hg1 trivial)
  clear HT H
  have HT := Lib.hid (intake_any 5 (by omega) H1 hs hn1)
  go_wp2_with fail
  refine HT.out.mono ?_
  rintro e w2 ⟨_, rfl, v2, n2, e2, rfl, hv2, hv2', hn2, he2, hg2, H2⟩
  replace hg2 := Lib.hid hg2
  replace he2 := Lib.hid he2
  clear HT H1
  have HT := Lib.hid (intake_any 4 (by omega) H2 hs hn2)
  go_wp2_with fail
  refine HT.out.mono ?_
  rintro e w3 ⟨_, rfl, v3, n3, e3, rfl, hv3, hv3', hn3, he3, hg3, H⟩
  have hst := Lib.hid (dst_start hg1.out he2.out hg2.out he3 hg3)
  clear HT H2 hg1 hg2 he2 hg3 he3
  rw [hB.out, hG.out] at hst
  obtain ⟨A, rfl⟩ : ∃ A : Nat, v1 = A := ⟨v1.toNat, by omega⟩
  obtain ⟨D, rfl⟩ : ∃ D : Nat, v2 = D := ⟨v2.toNat, by omega⟩
  obtain ⟨C, rfl⟩ : ∃ C : Nat, v3 = C := ⟨v3.toNat, by omega⟩
  have hw1 : IntKind.i64.wrap (257 + (A : Int)) = 257 + (A : Int) := IntWalk.i64_in _ ⟨by omega, by omega⟩
  have hw2 : IntKind.i64.wrap (1 + (D : Int)) = 1 + (D : Int) := IntWalk.i64_in _ ⟨by omega, by omega⟩
  have hw3 : IntKind.i64.wrap (4 + (C : Int)) = 4 + (C : Int) := IntWalk.i64_in _ ⟨by omega, by omega⟩
  go_upto_region 2 with (fail)
  go_cut [26] (fun s26 wx => wx = w3 ∧ s26 = .bool (decide (29 < A ∨ 29 < D)))
  case first =>
    by_cases h1 : 29 < A
    · have h1' : (286 : Int) < 257 + (A : Int) := by omega
      have hd : decide (29 < A ∨ 29 < D) = true := by simp [h1]
      go_wp2
      go_meet
      exact ⟨rfl, by rw [hd]⟩
    · have h1' : ¬ (286 : Int) < 257 + (A : Int) := by omega
      by_cases h2 : 29 < D
      · have h2' : (30 : Int) < 1 + (D : Int) := by omega
        have hd : decide (29 < A ∨ 29 < D) = true := by simp [h2]
        go_wp2
        go_meet
        exact ⟨rfl, by rw [hd]⟩
      · have h2' : ¬ (30 : Int) < 1 + (D : Int) := by omega
        have hd : decide (29 < A ∨ 29 < D) = false := by simp; omega
        go_wp2
        go_meet
        exact ⟨rfl, by rw [hd]⟩
  case rest =>
    obtain ⟨rfl, rfl⟩ := hcut
    replace hst : Hid ((e3 = 0 → A < 32 ∧ D < 32 ∧ C < 16) ∧ ((29 < A ∨ 29 < D) → ∀ (v : List Int × List Int) (m : Nat), GotR G v m (if e3 = 0 then 2 else e3)) ∧ (¬ (29 < A ∨ 29 < D) → DSt B G A D (4 + C) 0 [] (zerosF 19) n3 e3)) := Lib.hid (by
      have h := hst.out
      simp only [Int.toNat_natCast] at h
      refine ⟨fun h0 => by have := h.1 h0; omega, fun hx => h.2.1 (by omega), fun hx => h.2.2 (by omega)⟩)
    go_upto_if 26 with (fail)
    go_cut [] (fun wx => ∃ e4 : Int, Hid (e4 = 0 → A ≤ 29 ∧ D ≤ 29 ∧ C < 16) ∧ Hid (DSt B G A D (4 + C) 0 [] (zerosF 19) n3 e4) ∧ Own w0 wx (Inr g rg s n3 out most e4 :: ps))
    case first =>
      by_cases hx : 29 < A ∨ 29 < D
      · have hb : decide (29 < A ∨ 29 < D) = true := by simp [hx]
        have h2 := hst.out.2.1 hx
        rw [hb]
        clear hx hb
        have HH := Lib.hid (infail_any (g := g) (rg := rg) 2 (by decide) H)
        obtain ⟨e4, he4⟩ : ∃ e4, Hid ((if e3 = 0 then 2 else e3) = e4) := ⟨_, rfl⟩
        have hne : Hid (e4 ≠ 0) := Lib.hid (by rw [← he4.out]; split <;> omega)
        rw [he4.out] at HH h2
        replace h2 := Lib.hid h2
        go_wp2_with fail
        refine HH.out.mono ?_
        rintro e w4 ⟨_, rfl, H4⟩
        clear HH
        go_wp2
        go_meet
        exact ⟨e4, Lib.hid fun h => absurd h hne.out, Lib.hid ⟨fun h => absurd h hne.out, fun _ => h2.out⟩, H4⟩
      · have hb : decide (29 < A ∨ 29 < D) = false := by simp; omega
        have h2 := Lib.hid (hst.out.2.2 hx)
        have h3 : Hid (e3 = 0 → A ≤ 29 ∧ D ≤ 29 ∧ C < 16) := Lib.hid fun h0 => by have := hst.out.1 h0; omega
        rw [hb]
        clear hx hb
        go_wp2
        go_meet
        exact ⟨e3, h3, h2, H⟩
    case rest =>
    clear hst H
    obtain ⟨e4, hb4, hst, H⟩ := hcut
    clear hv1 hv2 hv3 hw1 hw2 hw3 hv1' hv2'
    go_upto_region 5 with (fail)
    have HA := H.alloc (.cells #[.int .i64 0, .int .i64 0, .int .i64 0, .int .i64 0, .int .i64 0, .int .i64 0, .int .i64 0, .int .i64 0, .int .i64 0, .int .i64 0, .int .i64 0, .int .i64 0, .int .i64 0, .int .i64 0, .int .i64 0, .int .i64 0, .int .i64 0, .int .i64 0, .int .i64 0] 105)
    generalize wc.alloc _ = w5 at *
    generalize wc.heap.size = bA at *
    clear H
    go_cut [29, 30] (fun s29 s30 wx => wx = w5 ∧ s30 = .int .i64 0 ∧ ∃ OA, s29 = .agg OA ∧ Hid (∀ i, i < 19 → OA[i]? = some (.int .i64 ((ordN i : Nat) : Int))))
    case first =>
      go_wp2
      go_meet
      refine ⟨rfl, rfl, _, rfl, Lib.hid fun i hi => ?_⟩
      have : i = 0 ∨ i = 1 ∨ i = 2 ∨ i = 3 ∨ i = 4 ∨ i = 5 ∨ i = 6 ∨ i = 7 ∨ i = 8 ∨ i = 9 ∨ i = 10 ∨ i = 11 ∨ i = 12 ∨ i = 13 ∨ i = 14 ∨ i = 15 ∨ i = 16 ∨ i = 17 ∨ i = 18 := by omega
      rcases this with rfl | rfl | rfl | rfl | rfl | rfl | rfl | rfl | rfl | rfl | rfl | rfl | rfl | rfl | rfl | rfl | rfl | rfl | rfl <;> rfl
    case rest =>
    obtain ⟨rfl, rfl, OA, rfl, hOA⟩ := hcut
    go_wp2_with fail
    go_loopw [30] (fun s30 wx => ∃ (k : Nat) (xs X : List Int) (n4 : Nat) (e : Int), s30 = .int .i64 k ∧ k ≤ 19 ∧ X.length = 19 ∧ n4 ≤ 8 * s.size ∧ Hid (e = 0 → A ≤ 29 ∧ D ≤ 29 ∧ C < 16) ∧ Hid (DSt B G A D (4 + C) k xs X n4 e) ∧ Own w0 wx (blk bA (.cells (nums X).toArray 105) :: Inr g rg s n4 out most e :: ps)) (fun s30 _ => 19 - (intOf s30).toNat)
    case atStart => exact ⟨0, [], zerosF 19, n3, e4, by go_num, by omega, rfl, hn3, hb4, hst, HA⟩
    case round =>
      clear HA hst hb4
      obtain ⟨k, xs, X, n4, e, rfl, hk, hX, hn4, hb4, hst, H⟩ := hrel
      replace hX := Lib.hid hX
      have ce := (H.front 1 rfl).inr_e
      by_cases hk19 : k < 19
      · have hkI : (k : Int) < 19 := by omega
        have hix : ∀ w, (Instr.index 105 (.agg OA) (.int .i64 k)).run Try.prog w = .ok (.int .i64 ((ordN k : Nat) : Int)) w := fun w => run_index_arr _ _ 19 OA k _ w Try.underlying105 (fun w => (int_one w).1) (fun w => (int_one w).2) hk19 (hOA.out k hk19)
        have ho19 := ordN_lt ⟨k, hk19⟩
        simp only at ho19
        obtain ⟨oj, hoj⟩ : ∃ oj, Hid (ordN k = oj) := ⟨_, rfl⟩
        rw [hoj.out] at hix ho19
        have hojI : (oj : Int) < 19 := by omega
        by_cases hkc : k < 4 + C
        · have hkcI : (k : Int) < 4 + (C : Int) := by omega
          by_cases he : e = 0
          · subst he
            obtain ⟨hA29, hD29, hC16⟩ := hb4.out rfl
            have HT := Lib.hid (intake_any 3 (by omega) (H.front 1 rfl) hs hn4)
            go_wp2_with fail
            refine HT.out.mono ?_
            rintro e0 w6 ⟨_, rfl, v, n5, e5, rfl, hv1, hv2, hn5, -, hg, H1⟩
            have hst2 := Lib.hid (dst_take hst.out hkc (by omega) (by have h := hg trivial; rw [hB.out] at h; exact h))
            rw [hoj.out] at hst2
            clear HT H ce hst hg
            have H := H1.front 1 rfl
            clear H1
            go_wp2_with (refine wpList_store_int rfl _ _ rfl rfl H rfl (by kernel_rfl) (by simp [nums, hX.out]; omega) ?_; clear H; intro w7 H)
            go_roundw
            case rel => exact ⟨k + 1, xs ++ [v], X.set oj v, n5, e5, by go_num, by omega, by rw [List.length_set]; exact hX.out, hn5, Lib.hid fun _ => ⟨hA29, hD29, hC16⟩, hst2, by rw [← arr_set]; exact H⟩
            case measure => simp [intOf]; omega
          · have heb : (e == 0) = false := by simp [he]
            have hst2 := Lib.hid (dst_bad (k' := k + 1) (xs' := xs) (X' := X) (n' := n4) hst.out he)
            clear hst he
            go_wp2_with fail
            go_roundw
            case rel => exact ⟨k + 1, xs, X, n4, e, by go_num, by omega, hX.out, hn4, hb4, hst2, H⟩
            case measure => simp [intOf]; omega
        · have hkcI : ¬ (k : Int) < 4 + (C : Int) := by omega
          have hst2 := Lib.hid (dst_skip hst.out (by omega))
          clear hst
          go_wp2_with fail
          go_roundw
          case rel => exact ⟨k + 1, xs, X, n4, e, by go_num, by omega, hX.out, hn4, hb4, hst2, H⟩
          case measure => simp [intOf]; omega
      · obtain rfl : k = 19 := by omega
        clear hk hk19
        have hkI : ¬ ((19 : Nat) : Int) < 19 := by omega
        by_cases he : e = 0
        case neg =>
          have heb : (e != 0) = true := by simp [he]
          have hbad := Lib.hid (hst.out.2 he)
          replace he := Lib.hid he
          clear hst hb4
          go_wp2_with fail
          go_ret2
          exact ⟨_, rfl, none, none, ([], []), n4, e, rfl, hn4, hbad.out _ _, fun h => absurd h he.out, fun _ => H.drop⟩
        subst he
        obtain ⟨hA29, hD29, hC16⟩ := hb4.out rfl
        obtain ⟨hXe, hGe⟩ := dst_end hst.out (by omega)
        replace hXe := Lib.hid hXe
        replace hGe := Lib.hid hGe
        clear hst hb4
        have hrow := arr_row H.block.1 (by rw [hX.out]; omega)
        rw [hX.out] at hrow
        have HTB := Lib.hid (intable_g hrow (by omega) (H.front 1 rfl))
        clear hrow
        go_wp2_with fail
        refine HTB.out.mono ?_
        rintro e0 w6 ⟨pt, rfl, H1⟩
        clear HTB H ce
        have hwN : IntKind.i64.wrap (257 + (A : Int) + (1 + (D : Int))) = 257 + (A : Int) + (1 + (D : Int)) := IntWalk.i64_in _ ⟨by omega, by omega⟩
        by_cases ht : terrF X = 0
        case neg =>
          obtain ⟨rfl, H2⟩ := H1.tblo_none ht
          have hE : eT X 0 = 2 := by unfold eT; rw [if_neg ht, if_pos rfl]
          rw [hE] at H2
          have hbad := Lib.hid ((codes_end (n' := 0) (l := []) (e' := 0) hGe.out).1 (by rw [← hXe.out]; exact ht))
          have HL := Lib.hid (inlengths_bad (g := g) (rg := rg) (257 + A + (1 + D)) none (by decide) (by omega) H2)
          rw [show ((257 + A + (1 + D) : Nat) : Int) = 257 + (A : Int) + (1 + (D : Int)) by omega] at HL
          clear hE H1 H2 ht hGe
          go_wp2_with fail
          refine HL.out.mono ?_
          rintro e0 w7 ⟨_, rfl, rfl, H3⟩
          have ce := H3.inr_e
          go_wp2_with fail
          go_ret2
          exact ⟨_, rfl, none, none, ([], []), n4, 2, rfl, hn4, hbad.out _ _, fun h => absurd h (by decide), fun _ => (H3.front 1 rfl).drop⟩
        obtain ⟨t, rfl, H2⟩ := H1.tblo ht
        have hE : eT X 0 = 0 := by unfold eT; rw [if_pos ht]
        rw [hE] at H2
        have HL := Lib.hid (inlengths_any (g := g) (rg := rg) (257 + A + (1 + D)) (tab_ok ht) (by omega) hs hn4 H2.swap)
        rw [show ((257 + A + (1 + D) : Nat) : Int) = 257 + (A : Int) + (1 + (D : Int)) by omega, hB.out] at HL
        replace ht := Lib.hid ht
        clear hE H1 H2
        go_wp2_with fail
        refine HL.out.mono ?_
        rintro e0 w7 ⟨_, rfl, l, n5, e5, hn5, hl1, hl2, hg5, H3⟩
        have hce := Lib.hid ((codes_end (n' := n5) (l := l) (e' := e5) hGe.out).2 (by rw [← hXe.out]; exact ht.out) (by rw [← hXe.out]; exact hg5))
        clear HL hGe hg5
        have ce := (H3.front 1 rfl).inr_e
        obtain ⟨a, c, rfl, hc1, hc2⟩ := H3.rd.shape
        by_cases he5 : e5 = 0
        case neg =>
          have heb : (e5 != 0) = true := by simp [he5]
          have hbad := Lib.hid (hce.out.1 he5)
          replace he5 := Lib.hid he5
          clear hce hl2
          go_wp2_with fail
          go_ret2
          exact ⟨_, rfl, none, none, ([], []), n5, e5, rfl, hn5, hbad.out _ _, fun h => absurd h he5.out, fun _ => ((H3.drop.front 1 rfl).drop.front 1 rfl).drop⟩
        subst he5
        have hlN := Lib.hid (hl2 rfl)
        have hGl := Lib.hid (hce.out.2 rfl)
        clear hl1 hl2 hce
        obtain ⟨bl, c', hbl, -, -, -, -, hcl, -⟩ := H3.at (by rw [nums_length, hlN.out]; omega)
        cases hbl
        have c256 : w7.cell? ⟨bl, 256, none⟩ = some (.int .i64 (l.getD 256 0)) := hcl 256 _ (nums_get (getD_get (by rw [hlN.out]; omega)))
        obtain ⟨x, hx⟩ : ∃ x, Hid (l.getD 256 0 = x) := ⟨_, rfl⟩
        rw [hx.out] at c256 hGl
        replace hcl := Lib.hid hcl
        obtain ⟨M, hM⟩ : ∃ M, Hid (l.length = M) := ⟨_, rfl⟩
        rw [hM.out] at H3 hlN hc1 ⊢
        have hMb : 257 + A + 1 ≤ M := by have := hlN.out; omega
        have hMb2 : M ≤ 400 := by have := hlN.out; omega
        have h256 : (256 : Int) < (M : Int) := by omega
        go_upto_if 71 with (fail)
        obtain ⟨bx, hbx⟩ : ∃ b, Hid ((x == 0) = b) := ⟨_, rfl⟩
        rw [hbx.out]
        go_cut [] (fun wx => ∃ e6 : Int, Hid (e6 = if x = 0 then 2 else 0) ∧ Own w0 wx (slc 3 1 (.slice (some ⟨bl, 0, none⟩) M c) M (nums l) :: Inr g rg s n5 out most e6 :: Tbl t X :: blk bA (.cells (nums X).toArray 105) :: ps))
        case first =>
          cases bx
          case true =>
            have he0 : Hid ((2 : Int) = if x = 0 then 2 else 0) := Lib.hid (if_pos (by simpa using hbx.out)).symm
            have HH := Lib.hid (infail_any (g := g) (rg := rg) 2 (by decide) (H3.front 1 rfl))
            go_wp2_with fail
            refine HH.out.mono ?_
            rintro e w4 ⟨_, rfl, H4⟩
            clear HH
            go_wp2
            go_meet
            exact ⟨2, he0, H4.front 1 rfl⟩
          case false =>
            have he0 : Hid ((0 : Int) = if x = 0 then 2 else 0) := Lib.hid (if_neg (by simpa using hbx.out)).symm
            go_wp2
            go_meet
            exact ⟨0, he0, H3⟩
        case rest =>
        clear c256 H3 ce
        obtain ⟨e6, he6, H⟩ := hcut
        obtain ⟨l1, hl1⟩ : ∃ l1, Hid (l.take (257 + A) = l1) := ⟨_, rfl⟩
        obtain ⟨l2, hl2⟩ : ∃ l2, Hid (l.drop (257 + A) = l2) := ⟨_, rfl⟩
        rw [hl1.out, hl2.out] at hGl
        have hrd : ∀ (w1 : World) (qs : List Piece), Own w0 w1 (slc 3 1 (.slice (some ⟨bl, 0, none⟩) M c) M (nums l) :: qs) → Rd w1 1 (.slice (some ⟨bl, 0, none⟩) (257 + A) c) (257 + A) (nums l1) ∧ Rd w1 1 (.slice (some ⟨bl, 257 + A, none⟩) (M - (257 + A)) (c - (257 + A))) (M - (257 + A)) (nums l2) := fun w1 qs h => by
          have h1 := h.rd.take (k := 257 + A) (by omega)
          have h2 := h.rd.tail (k := 257 + A) (by omega)
          simp only [Nat.mul_one, Addr.add_lit, Nat.zero_add, nums, ← List.map_take, ← List.map_drop, hl1.out, hl2.out] at h1 h2
          exact ⟨h1, h2⟩
        replace hrd := Lib.hid hrd
        have hk1 : (257 : Int) + (A : Int) ≤ c := by omega
        have hk2 : (257 : Int) + (A : Int) ≤ M := by omega
        have hk3 : (0 : Int) ≤ 257 + (A : Int) := by omega
        have hk4 : ((257 : Int) + (A : Int)).toNat = 257 + A := by omega
        have hk5 : ¬ (257 + A = c) := by omega
        have hk6 : ¬ (c = 257 + A) := by omega
        have hk7 : M ≤ c := hc1
        go_upto_region 19 with (fail)
        have HD0 : Own w0 wc (Inr g rg s n5 out most (eF l1 l2 e6 none none) :: slc 3 1 (.slice (some ⟨bl, 0, none⟩) M c) M (nums l) :: (optT l1 none ++ (optT l2 none ++ (Tbl t X :: blk bA (.cells (nums X).toArray 105) :: ps)))) := by
          have : eF l1 l2 e6 none none = e6 := by simp [eF]
          rw [this]
          exact H.front 1 rfl
        refine wp_region_new (fun σ w1 => Own w0 w1 (Inr g rg s n5 out most (eF l1 l2 e6 (σ 4) (σ 9)) :: slc 3 1 (.slice (some ⟨bl, 0, none⟩) M c) M (nums l) :: (optT l1 (σ 4) ++ (optT l2 (σ 9) ++ (Tbl t X :: blk bA (.cells (nums X).toArray 105) :: ps))))) 10 [4, 9] (by kernel_rfl) (by kernel_rfl) HD0.drew ?_
        simp only [List.take_succ_cons, List.take_zero, List.drop_succ_cons, List.drop_zero]
        repeat
          first
          | (refine calm_value (v := ?_) (by decide) rfl (fun σ w1 hS => ?_) ?_
             rotate_left
             · skip
               first | (go_simp; rfl) | rfl
             simp only [Act.put, List.setIfInBounds_toArray, List.set_cons_zero, List.set_cons_succ])
          | (refine calm_skip (by decide) rfl ?_
             simp only [Act.put, List.setIfInBounds_toArray, List.set_cons_zero, List.set_cons_succ])
        refine ncalm_call (by decide) (fun w1 => (by go_simp; first | exact ⟨rfl, rfl⟩ | rfl)) (fun σ w1 hS => ?_) ?_
        · refine (intable_g (hrd.out _ _ (hS.front 1 rfl)).1 (by omega) hS).mono ?_
          rintro e w8 ⟨r, rfl, h8⟩
          refine ⟨r, rfl, ?_⟩
          rw [eF_left (v := r)] at h8
          have h9 := h8.opt_left
          simpa [Sig.upd] using h9
        repeat
          first
          | (refine calm_value (v := ?_) (by decide) rfl (fun σ w1 hS => ?_) ?_
             rotate_left
             · skip
               first | (go_simp; rfl) | rfl
             simp only [Act.put, List.setIfInBounds_toArray, List.set_cons_zero, List.set_cons_succ])
          | (refine calm_skip (by decide) rfl ?_
             simp only [Act.put, List.setIfInBounds_toArray, List.set_cons_zero, List.set_cons_succ])
        refine ncalm_call (by decide) (fun w1 => (by go_simp; first | exact ⟨rfl, rfl⟩ | rfl)) (fun σ w1 hS => ?_) ?_
        · refine (intable_g (hrd.out _ _ (hS.front 1 rfl)).2 (by omega) hS).mono ?_
          rintro e w8 ⟨r, rfl, h8⟩
          refine ⟨r, rfl, ?_⟩
          rw [eF_right (v := r)] at h8
          have h9 := h8.opt_right
          simpa [Sig.upd] using h9
        refine calm_nil ?_
        intro σ wd hσ HD
        obtain ⟨v4, hv4⟩ := Option.isSome_iff_exists.1 (hσ 4 (by decide))
        obtain ⟨v9, hv9⟩ := Option.isSome_iff_exists.1 (hσ 9 (by decide))
        rw [hv4, hv9] at HD
        simp only [putNew, List.foldl_cons, List.foldl_nil, hv4, hv9]
        simp only [Act.put, List.setIfInBounds_toArray, List.set_cons_zero, List.set_cons_succ, List.getElem?_cons_succ, List.getElem?_cons_zero, Option.bind_some, Option.getD_some]
        clear hσ hv4 hv9 hrd HD0 H
        obtain ⟨eL, heL⟩ : ∃ eL, Hid (eF l1 l2 e6 (some v4) (some v9) = eL) := ⟨_, rfl⟩
        rw [heL.out] at HD
        have HE : Own w0 wd (TblO v4 l1 :: TblO v9 l2 :: Inr g rg s n5 out most eL :: slc 3 1 (.slice (some ⟨bl, 0, none⟩) M c) M (nums l) :: Tbl t X :: blk bA (.cells (nums X).toArray 105) :: ps) := (HD.front 3 rfl).front 3 rfl
        clear HD
        have hfin : Hid (∃ ao bo, v4 = .pointer ao ∧ v9 = .pointer bo ∧ GotR G (l1, l2) n5 eL ∧ (eL = 0 → TabOk l1 ∧ TabOk l2 ∧ ∃ a b, ao = some ⟨a, 0, none⟩ ∧ bo = some ⟨b, 0, none⟩ ∧ Own w0 wd (Inr g rg s n5 out most 0 :: Tbl a l1 :: Tbl b l2 :: ps)) ∧ (eL ≠ 0 → Own w0 wd (Inr g rg s n5 out most eL :: ps))) := Lib.hid (by
          have hnil : eL ≠ 0 → Own w0 wd (Inr g rg s n5 out most eL :: ps) := fun _ => (((HE.drop.drop.front 1 rfl).drop.front 1 rfl).drop.front 1 rfl).drop
          have e6c := he6.out
          have eLc := heL.out
          unfold eF at eLc
          simp only [Option.isSome_some, true_and] at eLc
          have hGc := hGl.out
          by_cases t1 : terrF l1 = 0
          · obtain ⟨a, rfl, HF⟩ := HE.tblo t1
            by_cases t2 : terrF l2 = 0
            · obtain ⟨b, rfl, HJ⟩ := (HF.front 1 rfl).tblo t2
              refine ⟨_, _, rfl, rfl, ?_, fun h0 => ⟨tab_ok t1, tab_ok t2, a, b, rfl, rfl, ?_⟩, hnil⟩
              · rw [if_neg (by simp [t1, t2])] at eLc
                by_cases hx0 : x = 0
                · rw [if_pos hx0] at e6c
                  rw [if_neg (by simp [hx0])] at hGc
                  rw [hGc, ← eLc, e6c]; rfl
                · rw [if_neg hx0] at e6c
                  rw [if_pos ⟨hx0, t1, t2⟩] at hGc
                  rw [hGc, ← eLc, e6c]; exact ⟨rfl, rfl, rfl⟩
              · rw [h0] at HJ
                have HK : Own w0 wd (Tbl b l2 :: Tbl a l1 :: Inr g rg s n5 out most 0 :: ps) := ((((HJ.front 3 rfl).drop.front 3 rfl).drop.front 3 rfl).drop)
                exact (HK.front 1 rfl).front 2 rfl
            · obtain ⟨rfl, HJ⟩ := (HF.front 1 rfl).tblo_none t2
              rw [if_pos (.inr t2)] at eLc
              have : eL = 2 := by rw [← eLc, e6c]; split <;> split <;> simp_all
              rw [if_neg (by simp [t2])] at hGc
              refine ⟨_, _, rfl, rfl, by rw [hGc, this]; rfl, fun h0 => by omega, hnil⟩
          · obtain ⟨rfl, HF⟩ := HE.tblo_none t1
            rw [if_pos (.inl t1)] at eLc
            have : eL = 2 := by rw [← eLc, e6c]; split <;> split <;> simp_all
            rw [if_neg (by simp [t1])] at hGc
            by_cases t2 : terrF l2 = 0
            · obtain ⟨b, rfl, HJ⟩ := HF.tblo t2
              exact ⟨_, _, rfl, rfl, by rw [hGc, this]; rfl, fun h0 => by omega, hnil⟩
            · obtain ⟨rfl, HJ⟩ := HF.tblo_none t2
              exact ⟨_, _, rfl, rfl, by rw [hGc, this]; rfl, fun h0 => by omega, hnil⟩)
        obtain ⟨ao, bo, rfl, rfl, hf1, hf2, hf3⟩ := hfin.out
        replace hf1 := Lib.hid hf1
        replace hf2 := Lib.hid hf2
        replace hf3 := Lib.hid hf3
        clear hfin HE
        go_wp2_with fail
        go_ret2
        exact ⟨_, rfl, ao, bo, (l1, l2), n5, eL, rfl, hn5, hf1.out, hf2.out, hf3.out⟩
end Go.Proofs.Ytnebacnmbigaaaa
/- Bits: Reader.Used. -/
namespace Go.Proofs.Ytnebacnmbigaaaa
open Go.RowKit

set_option maxHeartbeats 400000 in
theorem used_any {w0 w : World} {ps : List Piece} {g : Nat} {s : ByteArray} {n : Nat} (H : Own w0 w (Rdr g s n :: ps)) :
    Calls Try.prog 36 #[.pointer (some ⟨g, 0, none⟩)] w fun e w' => e = .returned (.int .i64 n) ∧ w' = w := by
  unfold Rdr at H
  have c0 := H.cells
  go_enter Try.func36, Try.ntmps36
  go_wp2
  go_ret
  exact ⟨rfl, rfl⟩
end Go.Proofs.Ytnebacnmbigaaaa
/- bits.New. -/
namespace Go.Proofs.Ytnebacnmbigaaaa
open Go.RowKit

set_option maxHeartbeats 400000 in
theorem bnew_any {w0 w : World} {ps : List Piece} (s : ByteArray) (H : Own w0 w ps) :
    Calls Try.prog 28 #[.string s] w (Ret fun v w' => ∃ g, v = .pointer (some ⟨g, 0, none⟩) ∧ Own w0 w' (Rdr g s 0 :: ps)) := by
  go_enter Try.func28, Try.ntmps28
  go_wp2
  go_ret
  exact ⟨_, rfl, _, rfl, H.alloc _⟩
end Go.Proofs.Ytnebacnmbigaaaa
/- inflate: the walk of Inflate. -/
namespace Go.Proofs.Ytnebacnmbigaaaa
open Go.RowKit

def imeas (z : Nat) (a e n : Value) : Nat := if intOf a = 0 ∧ intOf e = 0 then 8 * z + 1 - (intOf n).toNat else 0
theorem Own.inr_n {w0 w : World} {ps : List Piece} {g rg n : Nat} {s : ByteArray} {out : List Int} {most e : Int} (H : Own w0 w (Inr g rg s n out most e :: ps)) : w.cell? ⟨rg, 1, none⟩ = some (.int .i64 n) := by
  obtain ⟨a, c, _, _, H⟩ := H.inr
  have H2 := H.front 2 rfl
  unfold Rdr at H2
  rw [H2.cells]; rfl
theorem imeas_own {w0 w : World} {ps : List Piece} {z g rg n : Nat} {s : ByteArray} {out : List Int} {most e a : Int} (H : Own w0 w (Inr g rg s n out most e :: ps)) : imeas z (.int .i64 a) ((w.cell? ⟨g, 3, none⟩).getD undef) ((w.cell? ⟨rg, 1, none⟩).getD undef) = if a = 0 ∧ e = 0 then 8 * z + 1 - n else 0 := by
  unfold imeas
  rw [H.inr_n, H.inr_e]
  rfl
set_option maxRecDepth 100000 in
set_option maxHeartbeats 3200000 in
theorem inflate_any (w : World) (s : ByteArray) (most : Int) (hm : most ≤ 1000000) (hs : s.size ≤ 1000000) :
    Calls Try.prog 10 #[.string s, .int .i64 most] w (Ret fun r w' => ∃ t u e, r = .tuple #[.string t, .int .i64 u, .int .i64 e] ∧ InfRes (textBits s) (max most 0) t u e ∧ Own w w' []) := by
  obtain ⟨B, hB⟩ : ∃ B, Hid (textBits s = B) := ⟨_, rfl⟩
  have hBl : Hid (B.length = 8 * s.size) := Lib.hid (by rw [← hB.out, textBits_length])
  obtain ⟨m, hmm, hm0, hm1⟩ : ∃ m, Hid (max most 0 = m) ∧ 0 ≤ m ∧ m ≤ 1000000 := ⟨_, Lib.hid rfl, by omega, by omega⟩
  rw [hB.out, hmm.out]
  have HNW := Lib.hid (bnew_any s (Own.start w))
  go_enter Try.func10, Try.ntmps10
  go_upto_region 1 with (fail)
  go_cut [7] (fun s7 wx => ∃ g rg : Nat, s7 = .pointer (some ⟨g, 0, none⟩) ∧ Own w wx [Inr g rg s 0 [] m 0])
  case first =>
    by_cases hneg : most < 0
    · obtain rfl : m = 0 := by have := hmm.out; omega
      have hneg2 : ¬ 0 ≤ most := by omega
      go_wp2_with fail
      refine HNW.out.mono ?_
      rintro e w1 ⟨_, rfl, rg, rfl, H1⟩
      clear HNW
      go_wp2
      go_meet
      exact ⟨_, rg, rfl, Own.uninr (((H1.nil 5 1).alloc _)) rfl⟩
    · have hneg2 : 0 ≤ most := by omega
      obtain rfl : m = most := by have := hmm.out; omega
      go_wp2_with fail
      refine HNW.out.mono ?_
      rintro e w1 ⟨_, rfl, rg, rfl, H1⟩
      clear HNW
      go_wp2
      go_meet
      exact ⟨_, rg, rfl, Own.uninr (((H1.nil 5 1).alloc _)) rfl⟩
  case rest =>
  clear HNW
  obtain ⟨g, rg, rfl, H⟩ := hcut
  have hst : Hid (TokEnd B m false Inf.init [] 0 0) := Lib.hid ⟨fun _ => .refl _, fun h => absurd rfl h⟩
  go_wp2_with fail
  go_loopw [8] (fun s8 wx => ∃ (last : Bool) (a : Int) (out : List Int) (n : Nat) (e : Int), s8 = .int .i64 a ∧ Hid (e = 0 → (a = 0 ∧ last = false ∨ a = 1 ∧ last = true)) ∧ (out.length : Int) ≤ m ∧ n ≤ 8 * s.size ∧ Hid (TokEnd B m last Inf.init out n e) ∧ Own w wx [Inr g rg s n out m e]) (fun s8 wx => imeas s.size s8 ((wx.cell? ⟨g, 3, none⟩).getD undef) ((wx.cell? ⟨rg, 1, none⟩).getD undef))
  case atStart => exact ⟨false, 0, [], 0, 0, rfl, Lib.hid fun _ => .inl ⟨rfl, rfl⟩, by simpa using hm0, by omega, hst, H⟩
  case round =>
    clear H hst
    obtain ⟨last, a, out, n, e, rfl, hla, ho, hn, hst, H⟩ := hrel
    have ce := H.inr_e
    have hmz : Hid (imeas s.size (.int .i64 a) ((wr.cell? ⟨g, 3, none⟩).getD undef) ((wr.cell? ⟨rg, 1, none⟩).getD undef) = if a = 0 ∧ e = 0 then 8 * s.size + 1 - n else 0) := Lib.hid (imeas_own H)
    by_cases hx : a = 0 ∧ e = 0
    case neg =>
      clear hmz
      by_cases he : e = 0
      case neg =>
        have heb : (e != 0) = true := by simp [he]
        have heb2 : (e == 0) = false := by simp [he]
        have hfin := Lib.hid (infRes_err (hst.out.2 he))
        clear hx hla hst he
        by_cases ha : a = 0
        · subst ha
          go_upto_region 16 with (fail)
          refine wp_region_calm (fun w1 => Own w w1 [Inr g rg s n out m e]) 6 (by kernel_rfl) (by kernel_rfl) H.drew ?_
          simp only [List.take_succ_cons, List.take_zero, List.drop_succ_cons, List.drop_zero]
          repeat
            first
            | (refine calm_value (v := ?_) (by decide) rfl (fun σ w1 hS => ?_) ?_
               rotate_left
               · have ce := hS.inr_e
                 first | (go_simp; rfl) | rfl
               simp only [Act.put, List.setIfInBounds_toArray, List.set_cons_zero, List.set_cons_succ])
            | (refine calm_skip (by decide) rfl ?_
               simp only [Act.put, List.setIfInBounds_toArray, List.set_cons_zero, List.set_cons_succ])
          refine calm_nil ?_
          intro wd HD
          go_wp2_with fail
          go_ret3
          exact ⟨_, rfl, ByteArray.empty, 0, e, rfl, hfin.out, HD.bare⟩
        · have hab : (a == 0) = false := by simp [ha]
          clear ha
          go_upto_region 16 with (fail)
          refine wp_region_calm (fun w1 => Own w w1 [Inr g rg s n out m e]) 6 (by kernel_rfl) (by kernel_rfl) H.drew ?_
          simp only [List.take_succ_cons, List.take_zero, List.drop_succ_cons, List.drop_zero]
          repeat
            first
            | (refine calm_value (v := ?_) (by decide) rfl (fun σ w1 hS => ?_) ?_
               rotate_left
               · have ce := hS.inr_e
                 first | (go_simp; rfl) | rfl
               simp only [Act.put, List.setIfInBounds_toArray, List.set_cons_zero, List.set_cons_succ])
            | (refine calm_skip (by decide) rfl ?_
               simp only [Act.put, List.setIfInBounds_toArray, List.set_cons_zero, List.set_cons_succ])
          refine calm_nil ?_
          intro wd HD
          go_wp2_with fail
          go_ret3
          exact ⟨_, rfl, ByteArray.empty, 0, e, rfl, hfin.out, HD.bare⟩
      subst he
      obtain ⟨rfl, rfl⟩ : a = 1 ∧ last = true := by
        rcases hla.out rfl with h | h
        · exact absurd ⟨h.1, rfl⟩ hx
        · exact h
      have hfin := Lib.hid (infRes_ok hst.out)
      clear hx hla hst
      obtain ⟨q, hq⟩ : ∃ q, Hid (nbytes n = q) := ⟨_, rfl⟩
      rw [hq.out] at hfin
      obtain ⟨z, hz⟩ : ∃ z, Hid (8 * q = z) := ⟨_, rfl⟩
      have hqb : q ≤ 1000000 := by have := hq.out; unfold nbytes at this; omega
      obtain ⟨sa, sc, h1, h2, HI⟩ := H.inr
      obtain ⟨N, hN⟩ : ∃ N, Hid (out.length = N) := ⟨_, rfl⟩
      rw [hN.out] at HI
      have HA := rdalign_any (HI.front 2 rfl) (by omega)
      rw [hq.out, hz.out] at HA
      replace HA := Lib.hid HA
      have c0 := HI.cells
      clear H ce
      go_wp2_with fail
      refine HA.out.mono ?_
      rintro e0 w3 ⟨_, rfl, H3⟩
      have H : Own w w3 [blk g (.cells #[.pointer (some ⟨rg, 0, none⟩), .slice sa N sc, .int .i64 m, .int .i64 0] 59), slc 5 1 (.slice sa N sc) N (bcells out), Rdr rg s z] := (H3.front 2 rfl).front 2 rfl
      clear HA H3 HI c0
      have hzq : (z : Int) / 8 = (q : Int) := by have := hz.out; omega
      have hzq2 : (z : Int).tdiv 8 = (q : Int) := by rw [Int.tdiv_eq_ediv_of_nonneg (by omega)]; exact hzq
      have hwq : IntKind.i64.wrap (q : Int) = (q : Int) := IntWalk.i64_in _ ⟨by omega, by omega⟩
      obtain ⟨st, hst⟩ : ∃ st, Hid (strOfNums out = st) := ⟨_, rfl⟩
      rw [hst.out] at hfin
      have hcv : ∀ (w1 : World) (v : Value) (qs : List Piece), Own w w1 (blk g (.cells #[.pointer (some ⟨rg, 0, none⟩), .slice sa N sc, .int .i64 m, .int .i64 0] 59) :: slc 5 1 v N (bcells out) :: qs) → (convert 32 9 v).run Try.prog w1 = .ok (.string st) w1 := fun w1 v qs h => by
        rw [← hst.out]
        exact run_string_sep (P := Try.prog) 32 9 Try.underlying32 Try.underlying5 Try.underlying9 (ns := out) (h.front 1 rfl).rd
      replace hcv := Lib.hid hcv
      go_upto_region 18 with (fail)
      refine wp_region_calm (fun w1 => Own w w1 [blk g (.cells #[.pointer (some ⟨rg, 0, none⟩), .slice sa N sc, .int .i64 m, .int .i64 0] 59), slc 5 1 (.slice sa N sc) N (bcells out), Rdr rg s z]) 13 (by kernel_rfl) (by kernel_rfl) H.drew ?_
      simp only [List.take_succ_cons, List.take_zero, List.drop_succ_cons, List.drop_zero]
      repeat
        first
        | (refine calm_value (v := ?_) (by decide) rfl (fun σ w1 hS => ?_) ?_
           rotate_left
           · have c0 := hS.cells; have c1 := hcv.out _ _ _ hS
             first | (go_simp; rfl) | rfl
           simp only [Act.put, List.setIfInBounds_toArray, List.set_cons_zero, List.set_cons_succ])
        | (refine calm_skip (by decide) rfl ?_
           simp only [Act.put, List.setIfInBounds_toArray, List.set_cons_zero, List.set_cons_succ])
      refine calm_call (v := .int .i64 z) (by decide) rfl (fun w1 => (by go_simp; first | exact ⟨rfl, rfl⟩ | rfl)) (fun σ w1 hS => ?_) ?_
      · refine (used_any (hS.front 2 rfl)).mono ?_
        rintro e5 w5 ⟨rfl, rfl⟩
        exact ⟨rfl, hS⟩
      simp only [Act.put, List.setIfInBounds_toArray, List.set_cons_zero, List.set_cons_succ]
      repeat
        first
        | (refine calm_value (v := ?_) (by decide) rfl (fun σ w1 hS => ?_) ?_
           rotate_left
           · have c0 := hS.cells; have c1 := hcv.out _ _ _ hS
             first | (go_simp; rfl) | rfl
           simp only [Act.put, List.setIfInBounds_toArray, List.set_cons_zero, List.set_cons_succ])
        | (refine calm_skip (by decide) rfl ?_
           simp only [Act.put, List.setIfInBounds_toArray, List.set_cons_zero, List.set_cons_succ])
      refine calm_nil ?_
      intro wd HD
      go_wp2_with fail
      go_ret3
      exact ⟨_, rfl, st, q, 0, rfl, hfin.out, HD.bare⟩
    obtain ⟨rfl, rfl⟩ := hx
    obtain rfl : last = false := by have := hla.out rfl; simpa using this
    replace hmz := Lib.hid (hmz.out.trans (if_pos ⟨rfl, rfl⟩))
    clear hla
    have HT := intake_any 1 (by omega) H hs hn
    rw [hB.out] at HT
    replace HT := Lib.hid HT
    go_wp2_with fail
    refine HT.out.mono ?_
    rintro e0 w1 ⟨_, rfl, a, n1, e1, rfl, ha0, ha1, hn1, -, hg1, H1⟩
    replace hg1 := Lib.hid (hg1 trivial)
    clear HT H ce
    have HT := intake_any 2 (by omega) H1 hs hn1
    rw [hB.out] at HT
    replace HT := Lib.hid HT
    go_wp2_with fail
    refine HT.out.mono ?_
    rintro e0 w2 ⟨_, rfl, k, n2, e2, rfl, hk0, hk1, hn2, he2, hg2, H2⟩
    have hht := Lib.hid (head_takes (most := m) (out := out) hg1.out he2 hg2)
    clear HT H1 hg1 he2 hg2
    have ce := H2.inr_e
    by_cases he : e2 = 0
    case neg =>
      have heb : (e2 != 0) = true := by simp [he]
      have hfin := Lib.hid (infRes_err ((head_round hst.out (hht.out.1 he)).1 he))
      clear hht hmz hst he
      go_upto_region 16 with (fail)
      refine wp_region_calm (fun w1 => Own w w1 [Inr g rg s n2 out m e2]) 6 (by kernel_rfl) (by kernel_rfl) H2.drew ?_
      simp only [List.take_succ_cons, List.take_zero, List.drop_succ_cons, List.drop_zero]
      repeat
        first
        | (refine calm_value (v := ?_) (by decide) rfl (fun σ w1 hS => ?_) ?_
           rotate_left
           · have ce := hS.inr_e
             first | (go_simp; rfl) | rfl
           simp only [Act.put, List.setIfInBounds_toArray, List.set_cons_zero, List.set_cons_succ])
        | (refine calm_skip (by decide) rfl ?_
           simp only [Act.put, List.setIfInBounds_toArray, List.set_cons_zero, List.set_cons_succ])
      refine calm_nil ?_
      intro wd HD
      go_wp2_with fail
      go_ret3
      exact ⟨_, rfl, ByteArray.empty, 0, e2, rfl, hfin.out, HD.bare⟩
    subst he
    obtain ⟨hab, hkb, hn3, hG⟩ := hht.out.2 rfl
    replace hG := Lib.hid hG
    replace hn3 := Lib.hid hn3
    clear hht
    obtain ⟨la, hla⟩ : ∃ la, Hid (decide (a = 1) = la) := ⟨_, rfl⟩
    have hla2 : Hid (a = 0 ∧ la = false ∨ a = 1 ∧ la = true) := Lib.hid (by
      rw [← hla.out]
      rcases (show a = 0 ∨ a = 1 by omega) with rfl | rfl
      · exact .inl ⟨rfl, rfl⟩
      · exact .inr ⟨rfl, rfl⟩)
    rw [hla.out] at hG
    clear hla
    by_cases hq0 : k = 0
    · subst hq0
      have hG0 := hG.out
      rw [if_pos rfl] at hG0
      replace hG := Lib.hid hG0
      clear hG0
      have HS := instored_any ⟨hm0, hm1⟩ ho hs hn2 H2
      rw [hB.out] at HS
      replace HS := Lib.hid HS
      go_wp2_with fail
      refine HS.out.mono ?_
      rintro e0 w3 ⟨_, rfl, out2, n4, e4, hn4, ho2, hg4, H3⟩
      have hgh : GotR (headG B m ⟨n, out, none, false⟩) ⟨n4, out2, none, la⟩ n4 e4 := by
        rw [hG.out]
        by_cases h4 : e4 = 0
        · subst h4
          rw [gotR_ok hg4 stored_nbad, Got.bind_ok]
          exact ⟨rfl, rfl, rfl⟩
        · exact gotR_bind hg4 h4
      have hr := head_round hst.out hgh
      have hst2 : Hid (TokEnd B m la Inf.init out2 n4 e4) := Lib.hid ⟨hr.2, hr.1⟩
      have hle : Hid (e4 = 0 → n < n4) := Lib.hid (fun h4 => by
        subst h4
        have := (goes_stored B m out n2).le _ _ (gotR_ok hg4 stored_nbad)
        have := hn3.out
        omega)
      clear HS H2 hgh hr hst hg4 hG ce
      go_wp2_with fail
      go_roundw
      case rel => exact ⟨la, a, out2, n4, e4, rfl, Lib.hid fun _ => hla2.out, ho2, hn4, hst2, H3⟩
      case measure =>
        rw [hmz.out, imeas_own H3]
        split
        · next h => have := hle.out h.2; omega
        · omega
    by_cases hq1 : k = 1
    · subst hq1
      have hgh : GotR (headG B m ⟨n, out, none, false⟩) ⟨n2, out, some fixTab, la⟩ n2 0 := by
        rw [hG.out, if_neg (by decide), if_pos rfl]
        exact ⟨rfl, rfl, rfl⟩
      have hst2 := Lib.hid ((head_round hst.out hgh).2 rfl)
      clear hgh hG hst
      have HF := Lib.hid (infixed_any w2)
      go_wp2_with fail
      refine HF.out.mono ?_
      rintro e0 w3 ⟨_, rfl, ta, tb, rfl, HX⟩
      have H3 : Own w w3 (Inr g rg s n2 out m 0 :: Tbl ta fixL :: Tbl tb fixD :: []) := by
        have h := H2.join HX
        exact (h.front 1 rfl).front 2 rfl
      clear HF HX H2 ce
      have HT := Lib.hid (intokens_any la fix_ok.1 fix_ok.2 ⟨hm0, hm1⟩ ho hs hn2 H3)
      go_wp2_with fail
      refine HT.out.mono ?_
      rintro e0 w4 ⟨_, rfl, out2, n4, e4, ho2, hn4, hte, H4⟩
      rw [hB.out, ← fixTab_eq] at hte
      have hst3 : Hid (TokEnd B m la Inf.init out2 n4 e4) := Lib.hid (hte.from hst2.out)
      have hle : Hid (e4 = 0 → n < n4) := Lib.hid (fun h4 => by
        subst h4
        have h := hte.mono (by rw [hBl.out]; exact hn2)
        have h : n2 ≤ n4 := h
        have := hn3.out
        omega)
      clear HT H3 hte hst2
      have H5 : Own w w4 [Inr g rg s n4 out2 m e4] := ((H4.front 1 rfl).drop.front 1 rfl).drop
      clear H4
      go_wp2_with fail
      go_roundw
      case rel => exact ⟨la, a, out2, n4, e4, rfl, Lib.hid fun _ => hla2.out, ho2, hn4, hst3, H5⟩
      case measure =>
        rw [hmz.out, imeas_own H5]
        split
        · next h => have := hle.out h.2; omega
        · omega
    by_cases hq2 : k = 2
    · subst hq2
      have hG0 := hG.out
      rw [if_neg (by decide), if_neg (by decide), if_pos rfl] at hG0
      replace hG := Lib.hid hG0
      clear hG0
      have HD := indynamic_any hs hn2 H2
      rw [hB.out] at HD
      replace HD := Lib.hid HD
      go_wp2_with fail
      refine HD.out.mono ?_
      rintro e0 w3 ⟨_, rfl, ao, bo, T, n4, e4, rfl, hn4, hg4, hd1, hd2⟩
      replace hd1 := Lib.hid hd1
      replace hd2 := Lib.hid hd2
      clear HD H2 ce
      have hgh : GotR (headG B m ⟨n, out, none, false⟩) ⟨n4, out, some T, la⟩ n4 e4 := by
        rw [hG.out]
        by_cases h4 : e4 = 0
        · subst h4
          rw [gotR_ok hg4 codes_nbad, Got.bind_ok]
          exact ⟨rfl, rfl, rfl⟩
        · exact gotR_bind hg4 h4
      have hr := Lib.hid (head_round hst.out hgh)
      have hle0 : Hid (e4 = 0 → n < n4) := Lib.hid (fun h4 => by
        subst h4
        have := (goes_codes B n2).le _ _ (gotR_ok hg4 codes_nbad)
        have := hn3.out
        omega)
      clear hgh hst hg4 hG
      by_cases h4 : e4 = 0
      case neg =>
        have H3 := hd2.out h4
        have HT := Lib.hid (intokens_bad ao bo h4 H3)
        have hst3 : Hid (TokEnd B m la Inf.init out n4 e4) := Lib.hid ⟨fun h => absurd h h4, hr.out.1⟩
        replace h4 := Lib.hid h4
        clear hr hd1 hd2 H3
        go_wp2_with fail
        refine HT.out.mono ?_
        rintro e0 w4 ⟨_, rfl, H5⟩
        clear HT
        go_wp2_with fail
        go_roundw
        case rel => exact ⟨la, a, out, n4, e4, rfl, Lib.hid fun _ => hla2.out, ho, hn4, hst3, H5⟩
        case measure =>
          rw [hmz.out, imeas_own H5, if_neg (fun h => h4.out h.2)]
          omega
      subst h4
      obtain ⟨hT1, hT2, ta, tb, rfl, rfl, H3⟩ := hd1.out rfl
      have hle1 := hle0.out rfl
      have hst2 := Lib.hid (hr.out.2 rfl)
      clear hd1 hd2 hr hle0
      have HT := Lib.hid (intokens_any la hT1 hT2 ⟨hm0, hm1⟩ ho hs hn4 H3)
      go_wp2_with fail
      refine HT.out.mono ?_
      rintro e0 w4 ⟨_, rfl, out2, n5, e5, ho2, hn5, hte, H4⟩
      rw [hB.out] at hte
      have hst3 : Hid (TokEnd B m la Inf.init out2 n5 e5) := Lib.hid (hte.from hst2.out)
      have hle : Hid (e5 = 0 → n < n5) := Lib.hid (fun h4 => by
        subst h4
        have h := hte.mono (by rw [hBl.out]; exact hn4)
        have h : n4 ≤ n5 := h
        omega)
      clear HT H3 hte hst2
      have H5 : Own w w4 [Inr g rg s n5 out2 m e5] := ((H4.front 1 rfl).drop.front 1 rfl).drop
      clear H4
      go_wp2_with fail
      go_roundw
      case rel => exact ⟨la, a, out2, n5, e5, rfl, Lib.hid fun _ => hla2.out, ho2, hn5, hst3, H5⟩
      case measure =>
        rw [hmz.out, imeas_own H5]
        split
        · next h => have := hle.out h.2; omega
        · omega
    · obtain rfl : k = 3 := by omega
      have hgh : GotR (headG B m ⟨n, out, none, false⟩) Inf.init 0 2 := by
        rw [hG.out, if_neg (by decide), if_neg (by decide), if_neg (by decide)]
        rfl
      have hst3 : Hid (TokEnd B m la Inf.init out n2 2) := Lib.hid ⟨fun h => absurd h (by decide), (head_round hst.out hgh).1⟩
      clear hgh hst hG
      have HH := Lib.hid (infail_any (g := g) (rg := rg) 2 (by decide) H2)
      go_wp2_with fail
      refine HH.out.mono ?_
      rintro e0 w4 ⟨_, rfl, H5⟩
      clear HH
      go_wp2_with fail
      go_roundw
      case rel => exact ⟨la, a, out, n2, 2, rfl, Lib.hid fun _ => hla2.out, ho, hn2, hst3, H5⟩
      case measure =>
        rw [hmz.out, imeas_own H5, if_neg (fun h => absurd h.2 (by decide))]
        omega
end Go.Proofs.Ytnebacnmbigaaaa
/- inflate: the walks of the laws on texts that were packed. -/
namespace Go.Proofs.Ytnebacnmbigaaaa
open Go.RowKit

def cutS (s : ByteArray) (k : Nat) : ByteArray := if k < s.size then s.extract 0 k else s
theorem cutS_size (s : ByteArray) (k : Nat) : (cutS s k).size ≤ k := by
  unfold cutS
  split
  · rw [ByteArray.size_extract]; omega
  · omega
theorem cut10_any (s : ByteArray) (k : Nat) (w : World) : Calls Try.prog 9 #[.string s, .int .i64 k] w (Ret fun r w' => r = .string (cutS s k) ∧ Own w w' []) := by
  have H := Own.start w
  obtain ⟨T, hT⟩ : ∃ T, Hid (cutS s k = T) := ⟨_, rfl⟩
  rw [hT.out]
  obtain ⟨N, hN⟩ : ∃ N, s.size = N := ⟨_, rfl⟩
  by_cases h : k < N
  · have hI : (k : Int) < (N : Int) := by omega
    have hc : (k : Int) ≤ (N : Int) := by omega
    have hs : Hid (s.extract 0 k = T) := Lib.hid (by rw [← hT.out]; unfold cutS; rw [if_pos (by omega)])
    go_enter Try.func9, Try.ntmps9
    go_wp2_with fail
    go_ret
    exact ⟨_, rfl, by first | (rw [← hs.out]; rfl) | (rw [hs.out]), H⟩
  · have hI : ¬ (k : Int) < (N : Int) := by omega
    have hs : Hid (s = T) := Lib.hid (by rw [← hT.out]; unfold cutS; rw [if_neg (by omega)])
    go_enter Try.func9, Try.ntmps9
    go_wp2_with fail
    go_ret
    exact ⟨_, rfl, by rw [← hs.out]; rfl, H⟩
set_option maxRecDepth 100000 in
set_option maxHeartbeats 1600000 in
theorem awake10_any (w : World) : Calls Try.prog 12 #[] w (Ret fun r w' => r = .bool true ∧ Own w w' []) := by
  have H := Own.start w
  have k1 := fun w => inflate_any w ⟨#[0x4b, 4, 0]⟩ 9 (by omega) (by decide)
  have k2 := fun w => inflate_any w ⟨#[0x4b, 4]⟩ 9 (by omega) (by decide)
  have k3 := fun w => inflate_any w ⟨#[0x4b, 4, 0]⟩ 0 (by omega) (by decide)
  replace k1 := Lib.hid k1
  replace k2 := Lib.hid k2
  replace k3 := Lib.hid k3
  go_enter Try.func12, Try.ntmps12
  go_wp2_with fail
  refine (k1.out _).mono ?_
  rintro e w1 ⟨_, rfl, t1, u1, e1, rfl, h1, J1⟩
  obtain ⟨rfl, rfl, rfl⟩ := exr_a h1
  replace H := H.join J1
  clear J1 h1 k1
  go_wp2_with fail
  refine (k2.out _).mono ?_
  rintro e w2 ⟨_, rfl, t2, u2, e2, rfl, h2, J2⟩
  obtain rfl := exr_b h2
  replace H := H.join J2
  clear J2 h2 k2
  go_wp2_with fail
  refine (k3.out _).mono ?_
  rintro e w3 ⟨_, rfl, t3, u3, e3, rfl, h3, J3⟩
  obtain rfl := exr_c h3
  replace H := H.join J3
  clear J3 h3 k3
  go_wp2_with fail
  go_ret
  exact ⟨_, rfl, rfl, H⟩
end Go.Proofs.Ytnebacnmbigaaaa
/- inflate: the walks of InflateBack, InflateLimit, InflateCut. -/
namespace Go.Proofs.Ytnebacnmbigaaaa
open Go.RowKit

set_option maxRecDepth 100000 in
set_option maxHeartbeats 3200000 in
theorem lawback_any (s b : ByteArray) (way : Int) (w : World) : Calls Try.prog 6 #[.string s, .string b, .int .i64 way] w (Ret fun r w' => r = .bool true ∧ Own w w' []) := by
  have H := Own.start w
  obtain ⟨t, ht⟩ : ∃ t, Hid (cutS s 3000 = t) := ⟨_, rfl⟩
  have hts : t.size ≤ 3000 := by rw [← ht.out]; exact cutS_size _ _
  obtain ⟨q, hq⟩ : ∃ q, Hid (cutS b 100 = q) := ⟨_, rfl⟩
  have hqs : q.size ≤ 100 := by rw [← hq.out]; exact cutS_size _ _
  have k1 := fun w => cut10_any s 3000 w
  have k2 := fun w => cut10_any b 100 w
  rw [ht.out] at k1
  rw [hq.out] at k2
  have K1 := Lib.hid k1
  have K2 := Lib.hid k2
  have KP := Lib.hid (fun w => pack_any (w := w) t (by omega))
  have KS := Lib.hid (fun w => store_any (w := w) t (by omega))
  have KI := Lib.hid (fun w => simple_any (w := w) t (by omega))
  have KR := Lib.hid (fun w => richT_any (w := w) t (by omega))
  have KA := Lib.hid awake10_any
  have HP := Lib.hid (packed_pack (s := t) (by omega))
  have HS := Lib.hid (packed_store (s := t) (by omega))
  have HI := Lib.hid (packed_simple (s := t) (by omega))
  have HR := Lib.hid (packed_rich (s := t) (by omega))
  generalize packF t = pp at *
  generalize textOf (storeF t) = ps at *
  generalize simpleF t = pm at *
  generalize richF t = pr at *
  clear k1 k2 ht hq
  obtain ⟨x, hx⟩ : ∃ x, bits .and .i64 way 3 = x := ⟨_, rfl⟩
  go_enter Try.func6, Try.ntmps6
  go_wp2_with fail
  refine (K1.out _).mono ?_
  rintro e w1 ⟨_, rfl, rfl, J⟩
  replace H := H.join J
  clear J
  go_wp2_with fail
  refine (K2.out _).mono ?_
  rintro e w2 ⟨_, rfl, rfl, J⟩
  replace H := H.join J
  clear J
  go_wp2_with fail
  refine (KP.out _).mono ?_
  rintro e w3 ⟨_, rfl, rfl, J⟩
  replace H := H.join J
  clear J
  go_upto_block 0 with (fail)
  go_cut [7] (fun s7 wx => ∃ p, s7 = .string p ∧ Hid (Packed t p) ∧ Own w wx [])
  case first =>
    by_cases h1 : x = 1
    · have h1b : (x == 1) = true := by simp [h1]
      clear h1
      go_wp2_with fail
      refine (KS.out _).mono ?_
      rintro e w4 ⟨_, rfl, rfl, J⟩
      go_wp2
      go_meet
      exact ⟨_, rfl, HS, H.join J⟩
    have h1b : (x == 1) = false := by simp [h1]
    by_cases h2 : x = 2
    · have h2b : (x == 2) = true := by simp [h2]
      clear h1 h2
      go_wp2_with fail
      refine (KI.out _).mono ?_
      rintro e w4 ⟨_, rfl, rfl, J⟩
      go_wp2
      go_meet
      exact ⟨_, rfl, HI, H.join J⟩
    have h2b : (x == 2) = false := by simp [h2]
    by_cases h3 : x = 3
    · have h3b : (x == 3) = true := by simp [h3]
      clear h1 h2 h3
      go_wp2_with fail
      refine (KR.out _).mono ?_
      rintro e w4 ⟨_, rfl, rfl, J⟩
      go_wp2
      go_meet
      exact ⟨_, rfl, HR, H.join J⟩
    have h3b : (x == 3) = false := by simp [h3]
    clear h1 h2 h3
    go_wp2
    go_meet
    exact ⟨_, rfl, HP, H⟩
  case rest =>
  clear H K1 K2 KP KS KI KR HP HS HI HR hx
  obtain ⟨p, rfl, hp, H⟩ := hcut
  have hps := packed_size hp.out
  obtain ⟨z, hz⟩ : ∃ z, Hid (p ++ q = z) := ⟨_, rfl⟩
  have hzs : z.size ≤ 1000000 := by rw [← hz.out, ByteArray.size_append]; omega
  have KN := fun w => inflate_any w z t.size (by omega) hzs
  obtain ⟨n, hn⟩ : ∃ n, Hid (t.size = n) := ⟨_, rfl⟩
  rw [hn.out] at KN hts
  replace KN := Lib.hid KN
  obtain ⟨np, hnp⟩ : ∃ np, Hid (p.size = np) := ⟨_, rfl⟩
  have hbk : ∀ (t1 : ByteArray) (u1 e1 : Int), InfRes (textBits z) (max (n : Int) 0) t1 u1 e1 → t1 = t ∧ u1 = np ∧ e1 = 0 := fun t1 u1 e1 h => by
    rw [← hz.out, Int.max_eq_left (by omega), ← hn.out] at h
    rw [← hnp.out]
    exact packed_back hp.out h
  replace hbk := Lib.hid hbk
  have hz1 : p ++ q = z := hz.out
  clear hp hz
  have hn1 : t.size = n := hn.out
  clear hn
  go_upto_region 11 with (fail)
  go_wp2_with fail
  refine (KN.out _).mono ?_
  rintro e w4 ⟨_, rfl, t1, u1, e1, rfl, hr, J⟩
  obtain ⟨rfl, rfl, rfl⟩ := hbk.out _ _ _ hr
  replace H := H.join J
  clear J hr hbk KN hz1
  have hnp1 : p.size = np := hnp.out
  clear hnp
  go_upto_region 12 with (fail)
  go_wp2_with fail
  refine (KA.out _).mono ?_
  rintro e w5 ⟨_, rfl, rfl, J⟩
  replace H := H.join J
  clear J
  go_wp2
  go_ret
  exact ⟨_, rfl, rfl, H⟩
end Go.Proofs.Ytnebacnmbigaaaa
/- inflate: the walks of InflateLimit, InflateCut. -/
namespace Go.Proofs.Ytnebacnmbigaaaa
open Go.RowKit

set_option maxRecDepth 100000 in
set_option maxHeartbeats 3200000 in
theorem lawlimit_any (s : ByteArray) (less way : Int) (w : World) : Calls Try.prog 7 #[.string s, .int .i64 less, .int .i64 way] w (Ret fun r w' => r = .bool true ∧ Own w w' []) := by
  have H := Own.start w
  obtain ⟨t, ht⟩ : ∃ t, Hid (cutS s 3000 = t) := ⟨_, rfl⟩
  have hts : t.size ≤ 3000 := by rw [← ht.out]; exact cutS_size _ _
  have k1 := fun w => cut10_any s 3000 w
  rw [ht.out] at k1
  have K1 := Lib.hid k1
  have KP := Lib.hid (fun w => pack_any (w := w) t (by omega))
  have KR := Lib.hid (fun w => richT_any (w := w) t (by omega))
  have KA := Lib.hid awake10_any
  have HP := Lib.hid (packed_pack (s := t) (by omega))
  have HR := Lib.hid (packed_rich (s := t) (by omega))
  generalize packF t = pp at *
  generalize richF t = pr at *
  clear k1 ht
  obtain ⟨x, hx⟩ : ∃ x, bits .and .i64 less 1023 = x := ⟨_, rfl⟩
  have hxm := i64_and_mask less 10 (by omega)
  rw [show (((2 ^ 10 - 1 : Nat)) : Int) = 1023 from by decide, show ((2 ^ 10 : Nat) : Int) = 1024 from by decide] at hxm
  have hx1 : 0 ≤ x := by omega
  have hx2 : x ≤ 1023 := by omega
  clear hxm
  obtain ⟨n, hn⟩ : ∃ n, t.size = n := ⟨_, rfl⟩
  rw [hn] at hts
  obtain ⟨y, hy⟩ : ∃ y, bits .and .i64 way 1 = y := ⟨_, rfl⟩
  go_enter Try.func7, Try.ntmps7
  go_wp2_with fail
  refine (K1.out _).mono ?_
  rintro e w1 ⟨_, rfl, rfl, J⟩
  replace H := H.join J
  clear J
  by_cases hA : x = 0
  · have hb : (x == 0) = true := by simp [hA]
    clear hA
    go_wp2_with fail
    refine (KA.out _).mono ?_
    rintro e w5 ⟨_, rfl, rfl, J⟩
    replace H := H.join J
    clear J
    go_wp2
    go_ret
    exact ⟨_, rfl, rfl, H⟩
  have hb : (x == 0) = false := by simp [hA]
  by_cases hB : (n : Int) < x
  · clear hA
    go_wp2_with fail
    refine (KA.out _).mono ?_
    rintro e w5 ⟨_, rfl, rfl, J⟩
    replace H := H.join J
    clear J
    go_wp2
    go_ret
    exact ⟨_, rfl, rfl, H⟩
  have hB' : x ≤ (n : Int) := by omega
  have hA' : 0 < x := by omega
  clear hA
  go_wp2_with fail
  refine (KP.out _).mono ?_
  rintro e w3 ⟨_, rfl, rfl, J⟩
  replace H := H.join J
  clear J
  obtain ⟨yb, hby⟩ : ∃ b, Hid ((y == 1) = b) := ⟨_, rfl⟩
  go_upto_if 28 with (fail)
  rw [hby.out]
  go_cut [7] (fun s7 wx => ∃ p, s7 = .string p ∧ Hid (Packed t p) ∧ Own w wx [])
  case first =>
    cases yb
    · go_wp2
      go_meet
      exact ⟨_, rfl, HP, H⟩
    · go_wp2_with fail
      refine (KR.out _).mono ?_
      rintro e w4 ⟨_, rfl, rfl, J⟩
      go_wp2
      go_meet
      exact ⟨_, rfl, HR, H.join J⟩
  case rest =>
  clear H K1 KP KR HP HR hx hy hby
  obtain ⟨p, rfl, hp, H⟩ := hcut
  have hps := packed_size hp.out
  rw [hn] at hps
  obtain ⟨z, hz⟩ : ∃ z : Int, Hid ((n : Int) - x = z) := ⟨_, rfl⟩
  have hz0 : 0 ≤ z := by have := hz.out; omega
  have hzn : z < n := by have := hz.out; omega
  have KN := fun w => inflate_any w p z (by omega) (by omega)
  replace KN := Lib.hid KN
  have hbk : ∀ (t1 : ByteArray) (u1 e1 : Int), InfRes (textBits p) (max z 0) t1 u1 e1 → t1 = ⟨#[]⟩ ∧ u1 = 0 ∧ e1 = 12 := fun t1 u1 e1 h => by
    rw [Int.max_eq_left (by omega)] at h
    exact packed_limit hp.out hz0 (by rw [hn]; exact hzn) h
  replace hbk := Lib.hid hbk
  have hz1 : (n : Int) - x = z := hz.out
  clear hp hz
  go_wp2_with fail
  refine (KN.out _).mono ?_
  rintro e w4 ⟨_, rfl, t1, u1, e1, rfl, hr, J⟩
  obtain ⟨rfl, rfl, rfl⟩ := hbk.out _ _ _ hr
  replace H := H.join J
  clear J hr hbk KN hz1
  go_wp2_with fail
  refine (KA.out _).mono ?_
  rintro e w5 ⟨_, rfl, rfl, J⟩
  replace H := H.join J
  clear J
  go_wp2
  go_ret
  exact ⟨_, rfl, rfl, H⟩

set_option maxRecDepth 100000 in
set_option maxHeartbeats 3200000 in
theorem lawcut_any (s : ByteArray) (atv way : Int) (w : World) : Calls Try.prog 8 #[.string s, .int .i64 atv, .int .i64 way] w (Ret fun r w' => r = .bool true ∧ Own w w' []) := by
  have H := Own.start w
  obtain ⟨t, ht⟩ : ∃ t, Hid (cutS s 3000 = t) := ⟨_, rfl⟩
  have hts : t.size ≤ 3000 := by rw [← ht.out]; exact cutS_size _ _
  have k1 := fun w => cut10_any s 3000 w
  rw [ht.out] at k1
  have K1 := Lib.hid k1
  have KP := Lib.hid (fun w => pack_any (w := w) t (by omega))
  have KR := Lib.hid (fun w => richT_any (w := w) t (by omega))
  have KA := Lib.hid awake10_any
  have HP := Lib.hid (packed_pack (s := t) (by omega))
  have HR := Lib.hid (packed_rich (s := t) (by omega))
  generalize packF t = pp at *
  generalize richF t = pr at *
  clear k1 ht
  obtain ⟨n, hn⟩ : ∃ n, t.size = n := ⟨_, rfl⟩
  rw [hn] at hts
  obtain ⟨y, hy⟩ : ∃ y, bits .and .i64 way 1 = y := ⟨_, rfl⟩
  go_enter Try.func8, Try.ntmps8
  go_wp2_with fail
  refine (K1.out _).mono ?_
  rintro e w1 ⟨_, rfl, rfl, J⟩
  replace H := H.join J
  clear J
  go_wp2_with fail
  refine (KP.out _).mono ?_
  rintro e w3 ⟨_, rfl, rfl, J⟩
  replace H := H.join J
  clear J
  obtain ⟨yb, hby⟩ : ∃ b, Hid ((y == 1) = b) := ⟨_, rfl⟩
  go_upto_if 17 with (fail)
  rw [hby.out]
  go_cut [7] (fun s7 wx => ∃ p, s7 = .string p ∧ Hid (Packed t p) ∧ Own w wx [])
  case first =>
    cases yb
    · go_wp2
      go_meet
      exact ⟨_, rfl, HP, H⟩
    · go_wp2_with fail
      refine (KR.out _).mono ?_
      rintro e w4 ⟨_, rfl, rfl, J⟩
      go_wp2
      go_meet
      exact ⟨_, rfl, HR, H.join J⟩
  case rest =>
  clear H K1 KP KR HP HR hy hby
  obtain ⟨p, rfl, hp, H⟩ := hcut
  have hps := packed_size hp.out
  obtain ⟨np, hnp⟩ : ∃ np, p.size = np := ⟨_, rfl⟩
  rw [hn, hnp] at hps
  by_cases hA : atv < 0
  · clear hp
    go_wp2_with fail
    refine (KA.out _).mono ?_
    rintro e w5 ⟨_, rfl, rfl, J⟩
    replace H := H.join J
    clear J
    go_wp2
    go_ret
    exact ⟨_, rfl, rfl, H⟩
  have hA' : 0 ≤ atv := by omega
  by_cases hB : (np : Int) ≤ atv
  · clear hp
    go_wp2_with fail
    refine (KA.out _).mono ?_
    rintro e w5 ⟨_, rfl, rfl, J⟩
    replace H := H.join J
    clear J
    go_wp2
    go_ret
    exact ⟨_, rfl, rfl, H⟩
  clear hA
  obtain ⟨k, rfl⟩ : ∃ k : Nat, atv = k := ⟨atv.toNat, by omega⟩
  have hk1 : (k : Int) < np := by omega
  have hk2 : (k : Int) ≤ np := by omega
  obtain ⟨z, hz⟩ : ∃ z, Hid (p.extract 0 k = z) := ⟨_, rfl⟩
  have hzs : z.size ≤ 1000000 := by rw [← hz.out, ByteArray.size_extract]; omega
  have KN := fun w => inflate_any w z n (by omega) hzs
  replace KN := Lib.hid KN
  have hbk : ∀ (t1 : ByteArray) (u1 e1 : Int), InfRes (textBits z) (max (n : Int) 0) t1 u1 e1 → t1 = ⟨#[]⟩ ∧ u1 = 0 ∧ e1 = 2 := fun t1 u1 e1 h => by
    rw [Int.max_eq_left (by omega), ← hz.out] at h
    exact packed_cut hp.out (show k < p.size by omega) (by rw [hn]; exact h)
  replace hbk := Lib.hid hbk
  have hz1 : p.extract 0 k = z := hz.out
  clear hp hz
  go_wp2_with fail
  refine (KN.out _).mono ?_
  rintro e w4 ⟨_, rfl, t1, u1, e1, rfl, hr, J⟩
  obtain ⟨rfl, rfl, rfl⟩ := hbk.out _ _ _ hr
  replace H := H.join J
  clear J hr hbk KN hz1
  go_wp2_with fail
  refine (KA.out _).mono ?_
  rintro e w5 ⟨_, rfl, rfl, J⟩
  replace H := H.join J
  clear J
  go_wp2
  go_ret
  exact ⟨_, rfl, rfl, H⟩
end Go.Proofs.Ytnebacnmbigaaaa
