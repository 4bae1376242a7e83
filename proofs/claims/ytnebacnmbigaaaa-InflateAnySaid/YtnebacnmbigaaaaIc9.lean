/-
  Texts of this claim, one behind the other: inflate; Bits; bits.New; inflate; inflate; inflate; inflate; What comes in; inflate; inflate.
-/
import Derived.Test.YtnebacnmbigaaaaIc8
import Derived.Test.YtnebacnmbigaaaaRows
set_option linter.unusedVariables false
/- inflate: the walk of dynamic. -/
namespace Go.Proofs.Ytnebacnmbigaaaa
open Go.RowKit

/-- What dynamic leaves. -/
def DynPost (w0 : World) (ps : List Piece) (g rg : Nat) (s : ByteArray) (out : List Int) (most : Int) (G : Got (List Int × List Int)) (r : Value) (w' : World) : Prop :=
  ∃ ao bo T n' e', r = .tuple #[.pointer ao, .pointer bo] ∧ n' ≤ 8 * s.size ∧ GotR G T n' e' ∧
    (e' = 0 → TabOk T.1 ∧ TabOk T.2 ∧ ∃ a b, ao = some ⟨a, 0, none⟩ ∧ bo = some ⟨b, 0, none⟩ ∧ Own w0 w' (Inr g rg s n' out most 0 :: Tbl a T.1 :: Tbl b T.2 :: ps)) ∧
    (e' ≠ 0 → Own w0 w' (Inr g rg s n' out most e' :: ps))

theorem arr_row {w : World} {g : Nat} {t : TypeId} {X : List Int} (h : w.heap[g]? = some (.cells (nums X).toArray t)) (hX : X.length ≤ 1000000) : Rd w 1 (.slice (some ⟨g, 0, none⟩) X.length X.length) X.length (nums X) := by
  refine ⟨by rw [nums_length]; omega, _, _, rfl, Nat.le_refl _, by unfold maxLen; omega, by simp, fun ad had j u hu => ?_⟩
  obtain rfl := Option.some.inj had
  rw [Addr.add_lit, Nat.zero_add, cell_of_block h, List.getElem?_toArray]
  exact hu
theorem Own.tblo_none {w0 w : World} {ps : List Piece} {v : Value} {l : List Int} (H : Own w0 w (TblO v l :: ps)) (h : terrF l ≠ 0) : v = .pointer none ∧ Own w0 w ps := by
  unfold TblO at H
  rw [if_neg h] at H
  exact H.fact
theorem tab_ok {l : List Int} (h : terrF l = 0) : TabOk l := by
  obtain ⟨h1, h2, h3⟩ := table_ok h
  exact ⟨h2, h3, by omega⟩
/-- A table that may be made already. -/
def optT (l : List Int) : Option Value → List Piece
  | none => []
  | some v => [TblO v l]
/-- The fault behind two tables, of which each may be made already. -/
def eF (l1 l2 : List Int) (e : Int) (a b : Option Value) : Int := if (a.isSome = true ∧ terrF l1 ≠ 0) ∨ (b.isSome = true ∧ terrF l2 ≠ 0) then (if e = 0 then 2 else e) else e
theorem eF_left {l1 l2 : List Int} {e : Int} {a b : Option Value} {v : Value} : eT l1 (eF l1 l2 e a b) = eF l1 l2 e (some v) b := by
  unfold eT eF
  simp only [Option.isSome_some, true_and]
  by_cases h1 : terrF l1 = 0
  · simp [h1]
  · simp only [h1, if_false, ne_eq, not_false_eq_true, and_true, true_or, if_true]
    repeat' split
    all_goals omega
theorem eF_right {l1 l2 : List Int} {e : Int} {a b : Option Value} {v : Value} : eT l2 (eF l1 l2 e a b) = eF l1 l2 e a (some v) := by
  unfold eT eF
  simp only [Option.isSome_some, true_and]
  by_cases h1 : terrF l2 = 0
  · simp [h1]
  · simp only [h1, if_false, ne_eq, not_false_eq_true, and_true, or_true, if_true]
    repeat' split
    all_goals omega
theorem Own.opt_left {w0 w : World} {A B : Piece} {l1 l2 : List Int} {a b : Option Value} {r : Value} {ps : List Piece} (H : Own w0 w (TblO r l1 :: A :: B :: (optT l1 a ++ (optT l2 b ++ ps)))) : Own w0 w (A :: B :: (optT l1 (some r) ++ (optT l2 b ++ ps))) := by
  cases a with
  | none => exact (H.front 2 rfl).front 2 rfl
  | some v => exact (((H.front 3 rfl).drop.front 2 rfl).front 2 rfl)
theorem Own.opt_right {w0 w : World} {A B : Piece} {l1 l2 : List Int} {a b : Option Value} {r : Value} {ps : List Piece} (H : Own w0 w (TblO r l2 :: A :: B :: (optT l1 a ++ (optT l2 b ++ ps)))) : Own w0 w (A :: B :: (optT l1 a ++ (optT l2 (some r) ++ ps))) := by
  cases a with
  | none =>
    cases b with
    | none => exact (H.front 2 rfl).front 2 rfl
    | some v => exact (((H.front 3 rfl).drop.front 2 rfl).front 2 rfl)
  | some u =>
    cases b with
    | none => exact ((H.front 3 rfl).front 3 rfl).front 3 rfl
    | some v => exact ((((H.front 4 rfl).drop.front 3 rfl).front 3 rfl).front 3 rfl)

set_option maxRecDepth 100000 in
set_option maxHeartbeats 3200000 in
theorem indynamic_any {w0 w : World} {ps : List Piece} {g rg n : Nat} {s : ByteArray} {out : List Int} {most : Int} (hs : s.size ≤ 1000000) (hn : n ≤ 8 * s.size) (H : Own w0 w (Inr g rg s n out most 0 :: ps)) :
    Calls Try.prog 33 #[.pointer (some ⟨g, 0, none⟩)] w (Ret (DynPost w0 ps g rg s out most (codesG (textBits s) n))) := by
  obtain ⟨B, hB⟩ : ∃ B, Hid (textBits s = B) := ⟨_, rfl⟩
  obtain ⟨G, hG⟩ : ∃ G, Hid (codesG B n = G) := ⟨_, rfl⟩
  rw [hB.out, hG.out]
  go_enter Try.func33, Try.ntmps33
  have HT := Lib.hid (intake_any 5 (by omega) H hs hn)
  go_wp2_with fail
  refine HT.out.mono ?_
  rintro e w1 ⟨_, rfl, v1, n1, e1, rfl, hv1, hv1', hn1, -, hg1, H1⟩
  replace hg1 := Lib.hid (hg1 trivial)
  clear HT H
  have HT := Lib.hid (intake_any 5 (by omega) H1 hs hn1)
  go_wp2_with fail
  refine HT.out.mono ?_
  rintro e w2 ⟨_, rfl, v2, n2, e2, rfl, hv2, hv2', hn2, he2, hg2, H2⟩
  replace hg2 := Lib.hid hg2
  replace he2 := Lib.hid he2
  clear HT H1
  have HT := Lib.hid (intake_any 4 (by omega) H2 hs hn2)
  go_wp2_with fail
  refine HT.out.mono ?_
  rintro e w3 ⟨_, rfl, v3, n3, e3, rfl, hv3, hv3', hn3, he3, hg3, H⟩
  have hst := Lib.hid (dst_start hg1.out he2.out hg2.out he3 hg3)
  clear HT H2 hg1 hg2 he2 hg3 he3
  rw [hB.out, hG.out] at hst
  obtain ⟨A, rfl⟩ : ∃ A : Nat, v1 = A := ⟨v1.toNat, by omega⟩
  obtain ⟨D, rfl⟩ : ∃ D : Nat, v2 = D := ⟨v2.toNat, by omega⟩
  obtain ⟨C, rfl⟩ : ∃ C : Nat, v3 = C := ⟨v3.toNat, by omega⟩
  have hw1 : IntKind.i64.wrap (257 + (A : Int)) = 257 + (A : Int) := IntWalk.i64_in _ ⟨by omega, by omega⟩
  have hw2 : IntKind.i64.wrap (1 + (D : Int)) = 1 + (D : Int) := IntWalk.i64_in _ ⟨by omega, by omega⟩
  have hw3 : IntKind.i64.wrap (4 + (C : Int)) = 4 + (C : Int) := IntWalk.i64_in _ ⟨by omega, by omega⟩
  go_upto_region 2 with (fail)
  go_cut [26] (fun s26 wx => wx = w3 ∧ s26 = .bool (decide (29 < A ∨ 29 < D)))
  case first =>
    by_cases h1 : 29 < A
    · have h1' : (286 : Int) < 257 + (A : Int) := by omega
      have hd : decide (29 < A ∨ 29 < D) = true := by simp [h1]
      go_wp2
      go_meet
      exact ⟨rfl, by rw [hd]⟩
    · have h1' : ¬ (286 : Int) < 257 + (A : Int) := by omega
      by_cases h2 : 29 < D
      · have h2' : (30 : Int) < 1 + (D : Int) := by omega
        have hd : decide (29 < A ∨ 29 < D) = true := by simp [h2]
        go_wp2
        go_meet
        exact ⟨rfl, by rw [hd]⟩
      · have h2' : ¬ (30 : Int) < 1 + (D : Int) := by omega
        have hd : decide (29 < A ∨ 29 < D) = false := by simp; omega
        go_wp2
        go_meet
        exact ⟨rfl, by rw [hd]⟩
  case rest =>
    obtain ⟨rfl, rfl⟩ := hcut
    replace hst : Hid ((e3 = 0 → A < 32 ∧ D < 32 ∧ C < 16) ∧ ((29 < A ∨ 29 < D) → ∀ (v : List Int × List Int) (m : Nat), GotR G v m (if e3 = 0 then 2 else e3)) ∧ (¬ (29 < A ∨ 29 < D) → DSt B G A D (4 + C) 0 [] (zerosF 19) n3 e3)) := Lib.hid (by
      have h := hst.out
      simp only [Int.toNat_natCast] at h
      refine ⟨fun h0 => by have := h.1 h0; omega, fun hx => h.2.1 (by omega), fun hx => h.2.2 (by omega)⟩)
    go_upto_if 26 with (fail)
    go_cut [] (fun wx => ∃ e4 : Int, Hid (e4 = 0 → A ≤ 29 ∧ D ≤ 29 ∧ C < 16) ∧ Hid (DSt B G A D (4 + C) 0 [] (zerosF 19) n3 e4) ∧ Own w0 wx (Inr g rg s n3 out most e4 :: ps))
    case first =>
      by_cases hx : 29 < A ∨ 29 < D
      · have hb : decide (29 < A ∨ 29 < D) = true := by simp [hx]
        have h2 := hst.out.2.1 hx
        rw [hb]
        clear hx hb
        have HH := Lib.hid (infail_any (g := g) (rg := rg) 2 (by decide) H)
        obtain ⟨e4, he4⟩ : ∃ e4, Hid ((if e3 = 0 then 2 else e3) = e4) := ⟨_, rfl⟩
        have hne : Hid (e4 ≠ 0) := Lib.hid (by rw [← he4.out]; split <;> omega)
        rw [he4.out] at HH h2
        replace h2 := Lib.hid h2
        go_wp2_with fail
        refine HH.out.mono ?_
        rintro e w4 ⟨_, rfl, H4⟩
        clear HH
        go_wp2
        go_meet
        exact ⟨e4, Lib.hid fun h => absurd h hne.out, Lib.hid ⟨fun h => absurd h hne.out, fun _ => h2.out⟩, H4⟩
      · have hb : decide (29 < A ∨ 29 < D) = false := by simp; omega
        have h2 := Lib.hid (hst.out.2.2 hx)
        have h3 : Hid (e3 = 0 → A ≤ 29 ∧ D ≤ 29 ∧ C < 16) := Lib.hid fun h0 => by have := hst.out.1 h0; omega
        rw [hb]
        clear hx hb
        go_wp2
        go_meet
        exact ⟨e3, h3, h2, H⟩
    case rest =>
    clear hst H
    obtain ⟨e4, hb4, hst, H⟩ := hcut
    clear hv1 hv2 hv3 hw1 hw2 hw3 hv1' hv2'
    go_upto_region 5 with (fail)
    have HA := H.alloc (.cells #[.int .i64 0, .int .i64 0, .int .i64 0, .int .i64 0, .int .i64 0, .int .i64 0, .int .i64 0, .int .i64 0, .int .i64 0, .int .i64 0, .int .i64 0, .int .i64 0, .int .i64 0, .int .i64 0, .int .i64 0, .int .i64 0, .int .i64 0, .int .i64 0, .int .i64 0] 105)
    generalize wc.alloc _ = w5 at *
    generalize wc.heap.size = bA at *
    clear H
    go_cut [29, 30] (fun s29 s30 wx => wx = w5 ∧ s30 = .int .i64 0 ∧ ∃ OA, s29 = .agg OA ∧ Hid (∀ i, i < 19 → OA[i]? = some (.int .i64 ((ordN i : Nat) : Int))))
    case first =>
      go_wp2
      go_meet
      refine ⟨rfl, rfl, _, rfl, Lib.hid fun i hi => ?_⟩
      have : i = 0 ∨ i = 1 ∨ i = 2 ∨ i = 3 ∨ i = 4 ∨ i = 5 ∨ i = 6 ∨ i = 7 ∨ i = 8 ∨ i = 9 ∨ i = 10 ∨ i = 11 ∨ i = 12 ∨ i = 13 ∨ i = 14 ∨ i = 15 ∨ i = 16 ∨ i = 17 ∨ i = 18 := by omega
      rcases this with rfl | rfl | rfl | rfl | rfl | rfl | rfl | rfl | rfl | rfl | rfl | rfl | rfl | rfl | rfl | rfl | rfl | rfl | rfl <;> rfl
    case rest =>
    obtain ⟨rfl, rfl, OA, rfl, hOA⟩ := hcut
    go_wp2_with fail
    go_loopw [30] (fun s30 wx => ∃ (k : Nat) (xs X : List Int) (n4 : Nat) (e : Int), s30 = .int .i64 k ∧ k ≤ 19 ∧ X.length = 19 ∧ n4 ≤ 8 * s.size ∧ Hid (e = 0 → A ≤ 29 ∧ D ≤ 29 ∧ C < 16) ∧ Hid (DSt B G A D (4 + C) k xs X n4 e) ∧ Own w0 wx (blk bA (.cells (nums X).toArray 105) :: Inr g rg s n4 out most e :: ps)) (fun s30 _ => 19 - (intOf s30).toNat)
    case atStart => exact ⟨0, [], zerosF 19, n3, e4, by go_num, by omega, rfl, hn3, hb4, hst, HA⟩
    case round =>
      clear HA hst hb4
      obtain ⟨k, xs, X, n4, e, rfl, hk, hX, hn4, hb4, hst, H⟩ := hrel
      replace hX := Lib.hid hX
      have ce := (H.front 1 rfl).inr_e
      by_cases hk19 : k < 19
      · have hkI : (k : Int) < 19 := by omega
        have hix : ∀ w, (Instr.index 105 (.agg OA) (.int .i64 k)).run Try.prog w = .ok (.int .i64 ((ordN k : Nat) : Int)) w := fun w => run_index_arr _ _ 19 OA k _ w Try.underlying105 (fun w => (int_one w).1) (fun w => (int_one w).2) hk19 (hOA.out k hk19)
        have ho19 := ordN_lt ⟨k, hk19⟩
        simp only at ho19
        obtain ⟨oj, hoj⟩ : ∃ oj, Hid (ordN k = oj) := ⟨_, rfl⟩
        rw [hoj.out] at hix ho19
        have hojI : (oj : Int) < 19 := by omega
        by_cases hkc : k < 4 + C
        · have hkcI : (k : Int) < 4 + (C : Int) := by omega
          by_cases he : e = 0
          · subst he
            obtain ⟨hA29, hD29, hC16⟩ := hb4.out rfl
            have HT := Lib.hid (intake_any 3 (by omega) (H.front 1 rfl) hs hn4)
            go_wp2_with fail
            refine HT.out.mono ?_
            rintro e0 w6 ⟨_, rfl, v, n5, e5, rfl, hv1, hv2, hn5, -, hg, H1⟩
            have hst2 := Lib.hid (dst_take hst.out hkc (by omega) (by have h := hg trivial; rw [hB.out] at h; exact h))
            rw [hoj.out] at hst2
            clear HT H ce hst hg
            have H := H1.front 1 rfl
            clear H1
            go_wp2_with (refine wpList_store_int rfl _ _ rfl rfl H rfl (by kernel_rfl) (by simp [nums, hX.out]; omega) ?_; clear H; intro w7 H)
            go_roundw
            case rel => exact ⟨k + 1, xs ++ [v], X.set oj v, n5, e5, by go_num, by omega, by rw [List.length_set]; exact hX.out, hn5, Lib.hid fun _ => ⟨hA29, hD29, hC16⟩, hst2, by rw [← arr_set]; exact H⟩
            case measure => simp [intOf]; omega
          · have heb : (e == 0) = false := by simp [he]
            have hst2 := Lib.hid (dst_bad (k' := k + 1) (xs' := xs) (X' := X) (n' := n4) hst.out he)
            clear hst he
            go_wp2_with fail
            go_roundw
            case rel => exact ⟨k + 1, xs, X, n4, e, by go_num, by omega, hX.out, hn4, hb4, hst2, H⟩
            case measure => simp [intOf]; omega
        · have hkcI : ¬ (k : Int) < 4 + (C : Int) := by omega
          have hst2 := Lib.hid (dst_skip hst.out (by omega))
          clear hst
          go_wp2_with fail
          go_roundw
          case rel => exact ⟨k + 1, xs, X, n4, e, by go_num, by omega, hX.out, hn4, hb4, hst2, H⟩
          case measure => simp [intOf]; omega
      · obtain rfl : k = 19 := by omega
        clear hk hk19
        have hkI : ¬ ((19 : Nat) : Int) < 19 := by omega
        by_cases he : e = 0
        case neg =>
          have heb : (e != 0) = true := by simp [he]
          have hbad := Lib.hid (hst.out.2 he)
          replace he := Lib.hid he
          clear hst hb4
          go_wp2_with fail
          go_ret2
          exact ⟨_, rfl, none, none, ([], []), n4, e, rfl, hn4, hbad.out _ _, fun h => absurd h he.out, fun _ => H.drop⟩
        subst he
        obtain ⟨hA29, hD29, hC16⟩ := hb4.out rfl
        obtain ⟨hXe, hGe⟩ := dst_end hst.out (by omega)
        replace hXe := Lib.hid hXe
        replace hGe := Lib.hid hGe
        clear hst hb4
        have hrow := arr_row H.block.1 (by rw [hX.out]; omega)
        rw [hX.out] at hrow
        have HTB := Lib.hid (intable_g hrow (by omega) (H.front 1 rfl))
        clear hrow
        go_wp2_with fail
        refine HTB.out.mono ?_
        rintro e0 w6 ⟨pt, rfl, H1⟩
        clear HTB H ce
        have hwN : IntKind.i64.wrap (257 + (A : Int) + (1 + (D : Int))) = 257 + (A : Int) + (1 + (D : Int)) := IntWalk.i64_in _ ⟨by omega, by omega⟩
        by_cases ht : terrF X = 0
        case neg =>
          obtain ⟨rfl, H2⟩ := H1.tblo_none ht
          have hE : eT X 0 = 2 := by unfold eT; rw [if_neg ht, if_pos rfl]
          rw [hE] at H2
          have hbad := Lib.hid ((codes_end (n' := 0) (l := []) (e' := 0) hGe.out).1 (by rw [← hXe.out]; exact ht))
          have HL := Lib.hid (inlengths_bad (g := g) (rg := rg) (257 + A + (1 + D)) none (by decide) (by omega) H2)
          rw [show ((257 + A + (1 + D) : Nat) : Int) = 257 + (A : Int) + (1 + (D : Int)) by omega] at HL
          clear hE H1 H2 ht hGe
          go_wp2_with fail
          refine HL.out.mono ?_
          rintro e0 w7 ⟨_, rfl, rfl, H3⟩
          have ce := H3.inr_e
          go_wp2_with fail
          go_ret2
          exact ⟨_, rfl, none, none, ([], []), n4, 2, rfl, hn4, hbad.out _ _, fun h => absurd h (by decide), fun _ => (H3.front 1 rfl).drop⟩
        obtain ⟨t, rfl, H2⟩ := H1.tblo ht
        have hE : eT X 0 = 0 := by unfold eT; rw [if_pos ht]
        rw [hE] at H2
        have HL := Lib.hid (inlengths_any (g := g) (rg := rg) (257 + A + (1 + D)) (tab_ok ht) (by omega) hs hn4 H2.swap)
        rw [show ((257 + A + (1 + D) : Nat) : Int) = 257 + (A : Int) + (1 + (D : Int)) by omega, hB.out] at HL
        replace ht := Lib.hid ht
        clear hE H1 H2
        go_wp2_with fail
        refine HL.out.mono ?_
        rintro e0 w7 ⟨_, rfl, l, n5, e5, hn5, hl1, hl2, hg5, H3⟩
        have hce := Lib.hid ((codes_end (n' := n5) (l := l) (e' := e5) hGe.out).2 (by rw [← hXe.out]; exact ht.out) (by rw [← hXe.out]; exact hg5))
        clear HL hGe hg5
        have ce := (H3.front 1 rfl).inr_e
        obtain ⟨a, c, rfl, hc1, hc2⟩ := H3.rd.shape
        by_cases he5 : e5 = 0
        case neg =>
          have heb : (e5 != 0) = true := by simp [he5]
          have hbad := Lib.hid (hce.out.1 he5)
          replace he5 := Lib.hid he5
          clear hce hl2
          go_wp2_with fail
          go_ret2
          exact ⟨_, rfl, none, none, ([], []), n5, e5, rfl, hn5, hbad.out _ _, fun h => absurd h he5.out, fun _ => ((H3.drop.front 1 rfl).drop.front 1 rfl).drop⟩
        subst he5
        have hlN := Lib.hid (hl2 rfl)
        have hGl := Lib.hid (hce.out.2 rfl)
        clear hl1 hl2 hce
        obtain ⟨bl, c', hbl, -, -, -, -, hcl, -⟩ := H3.at (by rw [nums_length, hlN.out]; omega)
        cases hbl
        have c256 : w7.cell? ⟨bl, 256, none⟩ = some (.int .i64 (l.getD 256 0)) := hcl 256 _ (nums_get (getD_get (by rw [hlN.out]; omega)))
        obtain ⟨x, hx⟩ : ∃ x, Hid (l.getD 256 0 = x) := ⟨_, rfl⟩
        rw [hx.out] at c256 hGl
        replace hcl := Lib.hid hcl
        obtain ⟨M, hM⟩ : ∃ M, Hid (l.length = M) := ⟨_, rfl⟩
        rw [hM.out] at H3 hlN hc1 ⊢
        have hMb : 257 + A + 1 ≤ M := by have := hlN.out; omega
        have hMb2 : M ≤ 400 := by have := hlN.out; omega
        have h256 : (256 : Int) < (M : Int) := by omega
        go_upto_if 71 with (fail)
        obtain ⟨bx, hbx⟩ : ∃ b, Hid ((x == 0) = b) := ⟨_, rfl⟩
        rw [hbx.out]
        go_cut [] (fun wx => ∃ e6 : Int, Hid (e6 = if x = 0 then 2 else 0) ∧ Own w0 wx (slc 3 1 (.slice (some ⟨bl, 0, none⟩) M c) M (nums l) :: Inr g rg s n5 out most e6 :: Tbl t X :: blk bA (.cells (nums X).toArray 105) :: ps))
        case first =>
          cases bx
          case true =>
            have he0 : Hid ((2 : Int) = if x = 0 then 2 else 0) := Lib.hid (if_pos (by simpa using hbx.out)).symm
            have HH := Lib.hid (infail_any (g := g) (rg := rg) 2 (by decide) (H3.front 1 rfl))
            go_wp2_with fail
            refine HH.out.mono ?_
            rintro e w4 ⟨_, rfl, H4⟩
            clear HH
            go_wp2
            go_meet
            exact ⟨2, he0, H4.front 1 rfl⟩
          case false =>
            have he0 : Hid ((0 : Int) = if x = 0 then 2 else 0) := Lib.hid (if_neg (by simpa using hbx.out)).symm
            go_wp2
            go_meet
            exact ⟨0, he0, H3⟩
        case rest =>
        clear c256 H3 ce
        obtain ⟨e6, he6, H⟩ := hcut
        obtain ⟨l1, hl1⟩ : ∃ l1, Hid (l.take (257 + A) = l1) := ⟨_, rfl⟩
        obtain ⟨l2, hl2⟩ : ∃ l2, Hid (l.drop (257 + A) = l2) := ⟨_, rfl⟩
        rw [hl1.out, hl2.out] at hGl
        have hrd : ∀ (w1 : World) (qs : List Piece), Own w0 w1 (slc 3 1 (.slice (some ⟨bl, 0, none⟩) M c) M (nums l) :: qs) → Rd w1 1 (.slice (some ⟨bl, 0, none⟩) (257 + A) c) (257 + A) (nums l1) ∧ Rd w1 1 (.slice (some ⟨bl, 257 + A, none⟩) (M - (257 + A)) (c - (257 + A))) (M - (257 + A)) (nums l2) := fun w1 qs h => by
          have h1 := h.rd.take (k := 257 + A) (by omega)
          have h2 := h.rd.tail (k := 257 + A) (by omega)
          simp only [Nat.mul_one, Addr.add_lit, Nat.zero_add, nums, ← List.map_take, ← List.map_drop, hl1.out, hl2.out] at h1 h2
          exact ⟨h1, h2⟩
        replace hrd := Lib.hid hrd
        have hk1 : (257 : Int) + (A : Int) ≤ c := by omega
        have hk2 : (257 : Int) + (A : Int) ≤ M := by omega
        have hk3 : (0 : Int) ≤ 257 + (A : Int) := by omega
        have hk4 : ((257 : Int) + (A : Int)).toNat = 257 + A := by omega
        have hk5 : ¬ (257 + A = c) := by omega
        have hk6 : ¬ (c = 257 + A) := by omega
        have hk7 : M ≤ c := hc1
        go_upto_region 19 with (fail)
        have HD0 : Own w0 wc (Inr g rg s n5 out most (eF l1 l2 e6 none none) :: slc 3 1 (.slice (some ⟨bl, 0, none⟩) M c) M (nums l) :: (optT l1 none ++ (optT l2 none ++ (Tbl t X :: blk bA (.cells (nums X).toArray 105) :: ps)))) := by
          have : eF l1 l2 e6 none none = e6 := by simp [eF]
          rw [this]
          exact H.front 1 rfl
        refine wp_region_new (fun σ w1 => Own w0 w1 (Inr g rg s n5 out most (eF l1 l2 e6 (σ 4) (σ 9)) :: slc 3 1 (.slice (some ⟨bl, 0, none⟩) M c) M (nums l) :: (optT l1 (σ 4) ++ (optT l2 (σ 9) ++ (Tbl t X :: blk bA (.cells (nums X).toArray 105) :: ps))))) 10 [4, 9] (by kernel_rfl) (by kernel_rfl) HD0.drew ?_
        simp only [List.take_succ_cons, List.take_zero, List.drop_succ_cons, List.drop_zero]
        repeat
          first
          | (refine calm_value (v := ?_) (by decide) rfl (fun σ w1 hS => ?_) ?_
             rotate_left
             · skip
               first | (go_simp; rfl) | rfl
             simp only [Act.put, List.setIfInBounds_toArray, List.set_cons_zero, List.set_cons_succ])
          | (refine calm_skip (by decide) rfl ?_
             simp only [Act.put, List.setIfInBounds_toArray, List.set_cons_zero, List.set_cons_succ])
        refine ncalm_call (by decide) (fun w1 => (by go_simp; first | exact ⟨rfl, rfl⟩ | rfl)) (fun σ w1 hS => ?_) ?_
        · refine (intable_g (hrd.out _ _ (hS.front 1 rfl)).1 (by omega) hS).mono ?_
          rintro e w8 ⟨r, rfl, h8⟩
          refine ⟨r, rfl, ?_⟩
          rw [eF_left (v := r)] at h8
          have h9 := h8.opt_left
          simpa [Sig.upd] using h9
        repeat
          first
          | (refine calm_value (v := ?_) (by decide) rfl (fun σ w1 hS => ?_) ?_
             rotate_left
             · skip
               first | (go_simp; rfl) | rfl
             simp only [Act.put, List.setIfInBounds_toArray, List.set_cons_zero, List.set_cons_succ])
          | (refine calm_skip (by decide) rfl ?_
             simp only [Act.put, List.setIfInBounds_toArray, List.set_cons_zero, List.set_cons_succ])
        refine ncalm_call (by decide) (fun w1 => (by go_simp; first | exact ⟨rfl, rfl⟩ | rfl)) (fun σ w1 hS => ?_) ?_
        · refine (intable_g (hrd.out _ _ (hS.front 1 rfl)).2 (by omega) hS).mono ?_
          rintro e w8 ⟨r, rfl, h8⟩
          refine ⟨r, rfl, ?_⟩
          rw [eF_right (v := r)] at h8
          have h9 := h8.opt_right
          simpa [Sig.upd] using h9
        refine calm_nil ?_
        intro σ wd hσ HD
        obtain ⟨v4, hv4⟩ := Option.isSome_iff_exists.1 (hσ 4 (by decide))
        obtain ⟨v9, hv9⟩ := Option.isSome_iff_exists.1 (hσ 9 (by decide))
        rw [hv4, hv9] at HD
        simp only [putNew, List.foldl_cons, List.foldl_nil, hv4, hv9]
        simp only [Act.put, List.setIfInBounds_toArray, List.set_cons_zero, List.set_cons_succ, List.getElem?_cons_succ, List.getElem?_cons_zero, Option.bind_some, Option.getD_some]
        clear hσ hv4 hv9 hrd HD0 H
        obtain ⟨eL, heL⟩ : ∃ eL, Hid (eF l1 l2 e6 (some v4) (some v9) = eL) := ⟨_, rfl⟩
        rw [heL.out] at HD
        have HE : Own w0 wd (TblO v4 l1 :: TblO v9 l2 :: Inr g rg s n5 out most eL :: slc 3 1 (.slice (some ⟨bl, 0, none⟩) M c) M (nums l) :: Tbl t X :: blk bA (.cells (nums X).toArray 105) :: ps) := (HD.front 3 rfl).front 3 rfl
        clear HD
        have hfin : Hid (∃ ao bo, v4 = .pointer ao ∧ v9 = .pointer bo ∧ GotR G (l1, l2) n5 eL ∧ (eL = 0 → TabOk l1 ∧ TabOk l2 ∧ ∃ a b, ao = some ⟨a, 0, none⟩ ∧ bo = some ⟨b, 0, none⟩ ∧ Own w0 wd (Inr g rg s n5 out most 0 :: Tbl a l1 :: Tbl b l2 :: ps)) ∧ (eL ≠ 0 → Own w0 wd (Inr g rg s n5 out most eL :: ps))) := Lib.hid (by
          have hnil : eL ≠ 0 → Own w0 wd (Inr g rg s n5 out most eL :: ps) := fun _ => (((HE.drop.drop.front 1 rfl).drop.front 1 rfl).drop.front 1 rfl).drop
          have e6c := he6.out
          have eLc := heL.out
          unfold eF at eLc
          simp only [Option.isSome_some, true_and] at eLc
          have hGc := hGl.out
          by_cases t1 : terrF l1 = 0
          · obtain ⟨a, rfl, HF⟩ := HE.tblo t1
            by_cases t2 : terrF l2 = 0
            · obtain ⟨b, rfl, HJ⟩ := (HF.front 1 rfl).tblo t2
              refine ⟨_, _, rfl, rfl, ?_, fun h0 => ⟨tab_ok t1, tab_ok t2, a, b, rfl, rfl, ?_⟩, hnil⟩
              · rw [if_neg (by simp [t1, t2])] at eLc
                by_cases hx0 : x = 0
                · rw [if_pos hx0] at e6c
                  rw [if_neg (by simp [hx0])] at hGc
                  rw [hGc, ← eLc, e6c]; rfl
                · rw [if_neg hx0] at e6c
                  rw [if_pos ⟨hx0, t1, t2⟩] at hGc
                  rw [hGc, ← eLc, e6c]; exact ⟨rfl, rfl, rfl⟩
              · rw [h0] at HJ
                have HK : Own w0 wd (Tbl b l2 :: Tbl a l1 :: Inr g rg s n5 out most 0 :: ps) := ((((HJ.front 3 rfl).drop.front 3 rfl).drop.front 3 rfl).drop)
                exact (HK.front 1 rfl).front 2 rfl
            · obtain ⟨rfl, HJ⟩ := (HF.front 1 rfl).tblo_none t2
              rw [if_pos (.inr t2)] at eLc
              have : eL = 2 := by rw [← eLc, e6c]; split <;> split <;> simp_all
              rw [if_neg (by simp [t2])] at hGc
              refine ⟨_, _, rfl, rfl, by rw [hGc, this]; rfl, fun h0 => by omega, hnil⟩
          · obtain ⟨rfl, HF⟩ := HE.tblo_none t1
            rw [if_pos (.inl t1)] at eLc
            have : eL = 2 := by rw [← eLc, e6c]; split <;> split <;> simp_all
            rw [if_neg (by simp [t1])] at hGc
            by_cases t2 : terrF l2 = 0
            · obtain ⟨b, rfl, HJ⟩ := HF.tblo t2
              exact ⟨_, _, rfl, rfl, by rw [hGc, this]; rfl, fun h0 => by omega, hnil⟩
            · obtain ⟨rfl, HJ⟩ := HF.tblo_none t2
              exact ⟨_, _, rfl, rfl, by rw [hGc, this]; rfl, fun h0 => by omega, hnil⟩)
        obtain ⟨ao, bo, rfl, rfl, hf1, hf2, hf3⟩ := hfin.out
        replace hf1 := Lib.hid hf1
        replace hf2 := Lib.hid hf2
        replace hf3 := Lib.hid hf3
        clear hfin HE
        go_wp2_with fail
        go_ret2
        exact ⟨_, rfl, ao, bo, (l1, l2), n5, eL, rfl, hn5, hf1.out, hf2.out, hf3.out⟩
end Go.Proofs.Ytnebacnmbigaaaa
/- Bits: Reader.Used. -/
namespace Go.Proofs.Ytnebacnmbigaaaa
open Go.RowKit

set_option maxHeartbeats 400000 in
theorem used_any {w0 w : World} {ps : List Piece} {g : Nat} {s : ByteArray} {n : Nat} (H : Own w0 w (Rdr g s n :: ps)) :
    Calls Try.prog 36 #[.pointer (some ⟨g, 0, none⟩)] w fun e w' => e = .returned (.int .i64 n) ∧ w' = w := by
  unfold Rdr at H
  have c0 := H.cells
  go_enter Try.func36, Try.ntmps36
  go_wp2
  go_ret
  exact ⟨rfl, rfl⟩
end Go.Proofs.Ytnebacnmbigaaaa
/- bits.New. -/
namespace Go.Proofs.Ytnebacnmbigaaaa
open Go.RowKit

set_option maxHeartbeats 400000 in
theorem bnew_any {w0 w : World} {ps : List Piece} (s : ByteArray) (H : Own w0 w ps) :
    Calls Try.prog 28 #[.string s] w (Ret fun v w' => ∃ g, v = .pointer (some ⟨g, 0, none⟩) ∧ Own w0 w' (Rdr g s 0 :: ps)) := by
  go_enter Try.func28, Try.ntmps28
  go_wp2
  go_ret
  exact ⟨_, rfl, _, rfl, H.alloc _⟩
end Go.Proofs.Ytnebacnmbigaaaa
/- inflate: the walk of Inflate. -/
namespace Go.Proofs.Ytnebacnmbigaaaa
open Go.RowKit

def imeas (z : Nat) (a e n : Value) : Nat := if intOf a = 0 ∧ intOf e = 0 then 8 * z + 1 - (intOf n).toNat else 0
theorem Own.inr_n {w0 w : World} {ps : List Piece} {g rg n : Nat} {s : ByteArray} {out : List Int} {most e : Int} (H : Own w0 w (Inr g rg s n out most e :: ps)) : w.cell? ⟨rg, 1, none⟩ = some (.int .i64 n) := by
  obtain ⟨a, c, _, _, H⟩ := H.inr
  have H2 := H.front 2 rfl
  unfold Rdr at H2
  rw [H2.cells]; rfl
theorem imeas_own {w0 w : World} {ps : List Piece} {z g rg n : Nat} {s : ByteArray} {out : List Int} {most e a : Int} (H : Own w0 w (Inr g rg s n out most e :: ps)) : imeas z (.int .i64 a) ((w.cell? ⟨g, 3, none⟩).getD undef) ((w.cell? ⟨rg, 1, none⟩).getD undef) = if a = 0 ∧ e = 0 then 8 * z + 1 - n else 0 := by
  unfold imeas
  rw [H.inr_n, H.inr_e]
  rfl
set_option maxRecDepth 100000 in
set_option maxHeartbeats 3200000 in
theorem inflate_any (w : World) (s : ByteArray) (most : Int) (hm : most ≤ 1000000) (hs : s.size ≤ 1000000) :
    Calls Try.prog 10 #[.string s, .int .i64 most] w (Ret fun r w' => ∃ t u e, r = .tuple #[.string t, .int .i64 u, .int .i64 e] ∧ InfRes (textBits s) (max most 0) t u e ∧ Own w w' []) := by
  obtain ⟨B, hB⟩ : ∃ B, Hid (textBits s = B) := ⟨_, rfl⟩
  have hBl : Hid (B.length = 8 * s.size) := Lib.hid (by rw [← hB.out, textBits_length])
  obtain ⟨m, hmm, hm0, hm1⟩ : ∃ m, Hid (max most 0 = m) ∧ 0 ≤ m ∧ m ≤ 1000000 := ⟨_, Lib.hid rfl, by omega, by omega⟩
  rw [hB.out, hmm.out]
  have HNW := Lib.hid (bnew_any s (Own.start w))
  go_enter Try.func10, Try.ntmps10
  go_upto_region 1 with (fail)
  go_cut [7] (fun s7 wx => ∃ g rg : Nat, s7 = .pointer (some ⟨g, 0, none⟩) ∧ Own w wx [Inr g rg s 0 [] m 0])
  case first =>
    by_cases hneg : most < 0
    · obtain rfl : m = 0 := by have := hmm.out; omega
      have hneg2 : ¬ 0 ≤ most := by omega
      go_wp2_with fail
      refine HNW.out.mono ?_
      rintro e w1 ⟨_, rfl, rg, rfl, H1⟩
      clear HNW
      go_wp2
      go_meet
      exact ⟨_, rg, rfl, Own.uninr (((H1.nil 5 1).alloc _)) rfl⟩
    · have hneg2 : 0 ≤ most := by omega
      obtain rfl : m = most := by have := hmm.out; omega
      go_wp2_with fail
      refine HNW.out.mono ?_
      rintro e w1 ⟨_, rfl, rg, rfl, H1⟩
      clear HNW
      go_wp2
      go_meet
      exact ⟨_, rg, rfl, Own.uninr (((H1.nil 5 1).alloc _)) rfl⟩
  case rest =>
  clear HNW
  obtain ⟨g, rg, rfl, H⟩ := hcut
  have hst : Hid (TokEnd B m false Inf.init [] 0 0) := Lib.hid ⟨fun _ => .refl _, fun h => absurd rfl h⟩
  go_wp2_with fail
  go_loopw [8] (fun s8 wx => ∃ (last : Bool) (a : Int) (out : List Int) (n : Nat) (e : Int), s8 = .int .i64 a ∧ Hid (e = 0 → (a = 0 ∧ last = false ∨ a = 1 ∧ last = true)) ∧ (out.length : Int) ≤ m ∧ n ≤ 8 * s.size ∧ Hid (TokEnd B m last Inf.init out n e) ∧ Own w wx [Inr g rg s n out m e]) (fun s8 wx => imeas s.size s8 ((wx.cell? ⟨g, 3, none⟩).getD undef) ((wx.cell? ⟨rg, 1, none⟩).getD undef))
  case atStart => exact ⟨false, 0, [], 0, 0, rfl, Lib.hid fun _ => .inl ⟨rfl, rfl⟩, by simpa using hm0, by omega, hst, H⟩
  case round =>
    clear H hst
    obtain ⟨last, a, out, n, e, rfl, hla, ho, hn, hst, H⟩ := hrel
    have ce := H.inr_e
    have hmz : Hid (imeas s.size (.int .i64 a) ((wr.cell? ⟨g, 3, none⟩).getD undef) ((wr.cell? ⟨rg, 1, none⟩).getD undef) = if a = 0 ∧ e = 0 then 8 * s.size + 1 - n else 0) := Lib.hid (imeas_own H)
    by_cases hx : a = 0 ∧ e = 0
    case neg =>
      clear hmz
      by_cases he : e = 0
      case neg =>
        have heb : (e != 0) = true := by simp [he]
        have heb2 : (e == 0) = false := by simp [he]
        have hfin := Lib.hid (infRes_err (hst.out.2 he))
        clear hx hla hst he
        by_cases ha : a = 0
        · subst ha
          go_upto_region 16 with (fail)
          refine wp_region_calm (fun w1 => Own w w1 [Inr g rg s n out m e]) 6 (by kernel_rfl) (by kernel_rfl) H.drew ?_
          simp only [List.take_succ_cons, List.take_zero, List.drop_succ_cons, List.drop_zero]
          repeat
            first
            | (refine calm_value (v := ?_) (by decide) rfl (fun σ w1 hS => ?_) ?_
               rotate_left
               · have ce := hS.inr_e
                 first | (go_simp; rfl) | rfl
               simp only [Act.put, List.setIfInBounds_toArray, List.set_cons_zero, List.set_cons_succ])
            | (refine calm_skip (by decide) rfl ?_
               simp only [Act.put, List.setIfInBounds_toArray, List.set_cons_zero, List.set_cons_succ])
          refine calm_nil ?_
          intro wd HD
          go_wp2_with fail
          go_ret3
          exact ⟨_, rfl, ByteArray.empty, 0, e, rfl, hfin.out, HD.bare⟩
        · have hab : (a == 0) = false := by simp [ha]
          clear ha
          go_upto_region 16 with (fail)
          refine wp_region_calm (fun w1 => Own w w1 [Inr g rg s n out m e]) 6 (by kernel_rfl) (by kernel_rfl) H.drew ?_
          simp only [List.take_succ_cons, List.take_zero, List.drop_succ_cons, List.drop_zero]
          repeat
            first
            | (refine calm_value (v := ?_) (by decide) rfl (fun σ w1 hS => ?_) ?_
               rotate_left
               · have ce := hS.inr_e
                 first | (go_simp; rfl) | rfl
               simp only [Act.put, List.setIfInBounds_toArray, List.set_cons_zero, List.set_cons_succ])
            | (refine calm_skip (by decide) rfl ?_
               simp only [Act.put, List.setIfInBounds_toArray, List.set_cons_zero, List.set_cons_succ])
          refine calm_nil ?_
          intro wd HD
          go_wp2_with fail
          go_ret3
          exact ⟨_, rfl, ByteArray.empty, 0, e, rfl, hfin.out, HD.bare⟩
      subst he
      obtain ⟨rfl, rfl⟩ : a = 1 ∧ last = true := by
        rcases hla.out rfl with h | h
        · exact absurd ⟨h.1, rfl⟩ hx
        · exact h
      have hfin := Lib.hid (infRes_ok hst.out)
      clear hx hla hst
      obtain ⟨q, hq⟩ : ∃ q, Hid (nbytes n = q) := ⟨_, rfl⟩
      rw [hq.out] at hfin
      obtain ⟨z, hz⟩ : ∃ z, Hid (8 * q = z) := ⟨_, rfl⟩
      have hqb : q ≤ 1000000 := by have := hq.out; unfold nbytes at this; omega
      obtain ⟨sa, sc, h1, h2, HI⟩ := H.inr
      obtain ⟨N, hN⟩ : ∃ N, Hid (out.length = N) := ⟨_, rfl⟩
      rw [hN.out] at HI
      have HA := rdalign_any (HI.front 2 rfl) (by omega)
      rw [hq.out, hz.out] at HA
      replace HA := Lib.hid HA
      have c0 := HI.cells
      clear H ce
      go_wp2_with fail
      refine HA.out.mono ?_
      rintro e0 w3 ⟨_, rfl, H3⟩
      have H : Own w w3 [blk g (.cells #[.pointer (some ⟨rg, 0, none⟩), .slice sa N sc, .int .i64 m, .int .i64 0] 59), slc 5 1 (.slice sa N sc) N (bcells out), Rdr rg s z] := (H3.front 2 rfl).front 2 rfl
      clear HA H3 HI c0
      have hzq : (z : Int) / 8 = (q : Int) := by have := hz.out; omega
      have hzq2 : (z : Int).tdiv 8 = (q : Int) := by rw [Int.tdiv_eq_ediv_of_nonneg (by omega)]; exact hzq
      have hwq : IntKind.i64.wrap (q : Int) = (q : Int) := IntWalk.i64_in _ ⟨by omega, by omega⟩
      obtain ⟨st, hst⟩ : ∃ st, Hid (strOfNums out = st) := ⟨_, rfl⟩
      rw [hst.out] at hfin
      have hcv : ∀ (w1 : World) (v : Value) (qs : List Piece), Own w w1 (blk g (.cells #[.pointer (some ⟨rg, 0, none⟩), .slice sa N sc, .int .i64 m, .int .i64 0] 59) :: slc 5 1 v N (bcells out) :: qs) → (convert 32 9 v).run Try.prog w1 = .ok (.string st) w1 := fun w1 v qs h => by
        rw [← hst.out]
        exact run_string_sep (P := Try.prog) 32 9 Try.underlying32 Try.underlying5 Try.underlying9 (ns := out) (h.front 1 rfl).rd
      replace hcv := Lib.hid hcv
      go_upto_region 18 with (fail)
      refine wp_region_calm (fun w1 => Own w w1 [blk g (.cells #[.pointer (some ⟨rg, 0, none⟩), .slice sa N sc, .int .i64 m, .int .i64 0] 59), slc 5 1 (.slice sa N sc) N (bcells out), Rdr rg s z]) 13 (by kernel_rfl) (by kernel_rfl) H.drew ?_
      simp only [List.take_succ_cons, List.take_zero, List.drop_succ_cons, List.drop_zero]
      repeat
        first
        | (refine calm_value (v := ?_) (by decide) rfl (fun σ w1 hS => ?_) ?_
           rotate_left
           · have c0 := hS.cells; have c1 := hcv.out _ _ _ hS
             first | (go_simp; rfl) | rfl
           simp only [Act.put, List.setIfInBounds_toArray, List.set_cons_zero, List.set_cons_succ])
        | (refine calm_skip (by decide) rfl ?_
           simp only [Act.put, List.setIfInBounds_toArray, List.set_cons_zero, List.set_cons_succ])
      refine calm_call (v := .int .i64 z) (by decide) rfl (fun w1 => (by go_simp; first | exact ⟨rfl, rfl⟩ | rfl)) (fun σ w1 hS => ?_) ?_
      · refine (used_any (hS.front 2 rfl)).mono ?_
        rintro e5 w5 ⟨rfl, rfl⟩
        exact ⟨rfl, hS⟩
      simp only [Act.put, List.setIfInBounds_toArray, List.set_cons_zero, List.set_cons_succ]
      repeat
        first
        | (refine calm_value (v := ?_) (by decide) rfl (fun σ w1 hS => ?_) ?_
           rotate_left
           · have c0 := hS.cells; have c1 := hcv.out _ _ _ hS
             first | (go_simp; rfl) | rfl
           simp only [Act.put, List.setIfInBounds_toArray, List.set_cons_zero, List.set_cons_succ])
        | (refine calm_skip (by decide) rfl ?_
           simp only [Act.put, List.setIfInBounds_toArray, List.set_cons_zero, List.set_cons_succ])
      refine calm_nil ?_
      intro wd HD
      go_wp2_with fail
      go_ret3
      exact ⟨_, rfl, st, q, 0, rfl, hfin.out, HD.bare⟩
    obtain ⟨rfl, rfl⟩ := hx
    obtain rfl : last = false := by have := hla.out rfl; simpa using this
    replace hmz := Lib.hid (hmz.out.trans (if_pos ⟨rfl, rfl⟩))
    clear hla
    have HT := intake_any 1 (by omega) H hs hn
    rw [hB.out] at HT
    replace HT := Lib.hid HT
    go_wp2_with fail
    refine HT.out.mono ?_
    rintro e0 w1 ⟨_, rfl, a, n1, e1, rfl, ha0, ha1, hn1, -, hg1, H1⟩
    replace hg1 := Lib.hid (hg1 trivial)
    clear HT H ce
    have HT := intake_any 2 (by omega) H1 hs hn1
    rw [hB.out] at HT
    replace HT := Lib.hid HT
    go_wp2_with fail
    refine HT.out.mono ?_
    rintro e0 w2 ⟨_, rfl, k, n2, e2, rfl, hk0, hk1, hn2, he2, hg2, H2⟩
    have hht := Lib.hid (head_takes (most := m) (out := out) hg1.out he2 hg2)
    clear HT H1 hg1 he2 hg2
    have ce := H2.inr_e
    by_cases he : e2 = 0
    case neg =>
      have heb : (e2 != 0) = true := by simp [he]
      have hfin := Lib.hid (infRes_err ((head_round hst.out (hht.out.1 he)).1 he))
      clear hht hmz hst he
      go_upto_region 16 with (fail)
      refine wp_region_calm (fun w1 => Own w w1 [Inr g rg s n2 out m e2]) 6 (by kernel_rfl) (by kernel_rfl) H2.drew ?_
      simp only [List.take_succ_cons, List.take_zero, List.drop_succ_cons, List.drop_zero]
      repeat
        first
        | (refine calm_value (v := ?_) (by decide) rfl (fun σ w1 hS => ?_) ?_
           rotate_left
           · have ce := hS.inr_e
             first | (go_simp; rfl) | rfl
           simp only [Act.put, List.setIfInBounds_toArray, List.set_cons_zero, List.set_cons_succ])
        | (refine calm_skip (by decide) rfl ?_
           simp only [Act.put, List.setIfInBounds_toArray, List.set_cons_zero, List.set_cons_succ])
      refine calm_nil ?_
      intro wd HD
      go_wp2_with fail
      go_ret3
      exact ⟨_, rfl, ByteArray.empty, 0, e2, rfl, hfin.out, HD.bare⟩
    subst he
    obtain ⟨hab, hkb, hn3, hG⟩ := hht.out.2 rfl
    replace hG := Lib.hid hG
    replace hn3 := Lib.hid hn3
    clear hht
    obtain ⟨la, hla⟩ : ∃ la, Hid (decide (a = 1) = la) := ⟨_, rfl⟩
    have hla2 : Hid (a = 0 ∧ la = false ∨ a = 1 ∧ la = true) := Lib.hid (by
      rw [← hla.out]
      rcases (show a = 0 ∨ a = 1 by omega) with rfl | rfl
      · exact .inl ⟨rfl, rfl⟩
      · exact .inr ⟨rfl, rfl⟩)
    rw [hla.out] at hG
    clear hla
    by_cases hq0 : k = 0
    · subst hq0
      have hG0 := hG.out
      rw [if_pos rfl] at hG0
      replace hG := Lib.hid hG0
      clear hG0
      have HS := instored_any ⟨hm0, hm1⟩ ho hs hn2 H2
      rw [hB.out] at HS
      replace HS := Lib.hid HS
      go_wp2_with fail
      refine HS.out.mono ?_
      rintro e0 w3 ⟨_, rfl, out2, n4, e4, hn4, ho2, hg4, H3⟩
      have hgh : GotR (headG B m ⟨n, out, none, false⟩) ⟨n4, out2, none, la⟩ n4 e4 := by
        rw [hG.out]
        by_cases h4 : e4 = 0
        · subst h4
          rw [gotR_ok hg4 stored_nbad, Got.bind_ok]
          exact ⟨rfl, rfl, rfl⟩
        · exact gotR_bind hg4 h4
      have hr := head_round hst.out hgh
      have hst2 : Hid (TokEnd B m la Inf.init out2 n4 e4) := Lib.hid ⟨hr.2, hr.1⟩
      have hle : Hid (e4 = 0 → n < n4) := Lib.hid (fun h4 => by
        subst h4
        have := (goes_stored B m out n2).le _ _ (gotR_ok hg4 stored_nbad)
        have := hn3.out
        omega)
      clear HS H2 hgh hr hst hg4 hG ce
      go_wp2_with fail
      go_roundw
      case rel => exact ⟨la, a, out2, n4, e4, rfl, Lib.hid fun _ => hla2.out, ho2, hn4, hst2, H3⟩
      case measure =>
        rw [hmz.out, imeas_own H3]
        split
        · next h => have := hle.out h.2; omega
        · omega
    by_cases hq1 : k = 1
    · subst hq1
      have hgh : GotR (headG B m ⟨n, out, none, false⟩) ⟨n2, out, some fixTab, la⟩ n2 0 := by
        rw [hG.out, if_neg (by decide), if_pos rfl]
        exact ⟨rfl, rfl, rfl⟩
      have hst2 := Lib.hid ((head_round hst.out hgh).2 rfl)
      clear hgh hG hst
      have HF := Lib.hid (infixed_any w2)
      go_wp2_with fail
      refine HF.out.mono ?_
      rintro e0 w3 ⟨_, rfl, ta, tb, rfl, HX⟩
      have H3 : Own w w3 (Inr g rg s n2 out m 0 :: Tbl ta fixL :: Tbl tb fixD :: []) := by
        have h := H2.join HX
        exact (h.front 1 rfl).front 2 rfl
      clear HF HX H2 ce
      have HT := Lib.hid (intokens_any la fix_ok.1 fix_ok.2 ⟨hm0, hm1⟩ ho hs hn2 H3)
      go_wp2_with fail
      refine HT.out.mono ?_
      rintro e0 w4 ⟨_, rfl, out2, n4, e4, ho2, hn4, hte, H4⟩
      rw [hB.out, ← fixTab_eq] at hte
      have hst3 : Hid (TokEnd B m la Inf.init out2 n4 e4) := Lib.hid (hte.from hst2.out)
      have hle : Hid (e4 = 0 → n < n4) := Lib.hid (fun h4 => by
        subst h4
        have h := hte.mono (by rw [hBl.out]; exact hn2)
        have h : n2 ≤ n4 := h
        have := hn3.out
        omega)
      clear HT H3 hte hst2
      have H5 : Own w w4 [Inr g rg s n4 out2 m e4] := ((H4.front 1 rfl).drop.front 1 rfl).drop
      clear H4
      go_wp2_with fail
      go_roundw
      case rel => exact ⟨la, a, out2, n4, e4, rfl, Lib.hid fun _ => hla2.out, ho2, hn4, hst3, H5⟩
      case measure =>
        rw [hmz.out, imeas_own H5]
        split
        · next h => have := hle.out h.2; omega
        · omega
    by_cases hq2 : k = 2
    · subst hq2
      have hG0 := hG.out
      rw [if_neg (by decide), if_neg (by decide), if_pos rfl] at hG0
      replace hG := Lib.hid hG0
      clear hG0
      have HD := indynamic_any hs hn2 H2
      rw [hB.out] at HD
      replace HD := Lib.hid HD
      go_wp2_with fail
      refine HD.out.mono ?_
      rintro e0 w3 ⟨_, rfl, ao, bo, T, n4, e4, rfl, hn4, hg4, hd1, hd2⟩
      replace hd1 := Lib.hid hd1
      replace hd2 := Lib.hid hd2
      clear HD H2 ce
      have hgh : GotR (headG B m ⟨n, out, none, false⟩) ⟨n4, out, some T, la⟩ n4 e4 := by
        rw [hG.out]
        by_cases h4 : e4 = 0
        · subst h4
          rw [gotR_ok hg4 codes_nbad, Got.bind_ok]
          exact ⟨rfl, rfl, rfl⟩
        · exact gotR_bind hg4 h4
      have hr := Lib.hid (head_round hst.out hgh)
      have hle0 : Hid (e4 = 0 → n < n4) := Lib.hid (fun h4 => by
        subst h4
        have := (goes_codes B n2).le _ _ (gotR_ok hg4 codes_nbad)
        have := hn3.out
        omega)
      clear hgh hst hg4 hG
      by_cases h4 : e4 = 0
      case neg =>
        have H3 := hd2.out h4
        have HT := Lib.hid (intokens_bad ao bo h4 H3)
        have hst3 : Hid (TokEnd B m la Inf.init out n4 e4) := Lib.hid ⟨fun h => absurd h h4, hr.out.1⟩
        replace h4 := Lib.hid h4
        clear hr hd1 hd2 H3
        go_wp2_with fail
        refine HT.out.mono ?_
        rintro e0 w4 ⟨_, rfl, H5⟩
        clear HT
        go_wp2_with fail
        go_roundw
        case rel => exact ⟨la, a, out, n4, e4, rfl, Lib.hid fun _ => hla2.out, ho, hn4, hst3, H5⟩
        case measure =>
          rw [hmz.out, imeas_own H5, if_neg (fun h => h4.out h.2)]
          omega
      subst h4
      obtain ⟨hT1, hT2, ta, tb, rfl, rfl, H3⟩ := hd1.out rfl
      have hle1 := hle0.out rfl
      have hst2 := Lib.hid (hr.out.2 rfl)
      clear hd1 hd2 hr hle0
      have HT := Lib.hid (intokens_any la hT1 hT2 ⟨hm0, hm1⟩ ho hs hn4 H3)
      go_wp2_with fail
      refine HT.out.mono ?_
      rintro e0 w4 ⟨_, rfl, out2, n5, e5, ho2, hn5, hte, H4⟩
      rw [hB.out] at hte
      have hst3 : Hid (TokEnd B m la Inf.init out2 n5 e5) := Lib.hid (hte.from hst2.out)
      have hle : Hid (e5 = 0 → n < n5) := Lib.hid (fun h4 => by
        subst h4
        have h := hte.mono (by rw [hBl.out]; exact hn4)
        have h : n4 ≤ n5 := h
        omega)
      clear HT H3 hte hst2
      have H5 : Own w w4 [Inr g rg s n5 out2 m e5] := ((H4.front 1 rfl).drop.front 1 rfl).drop
      clear H4
      go_wp2_with fail
      go_roundw
      case rel => exact ⟨la, a, out2, n5, e5, rfl, Lib.hid fun _ => hla2.out, ho2, hn5, hst3, H5⟩
      case measure =>
        rw [hmz.out, imeas_own H5]
        split
        · next h => have := hle.out h.2; omega
        · omega
    · obtain rfl : k = 3 := by omega
      have hgh : GotR (headG B m ⟨n, out, none, false⟩) Inf.init 0 2 := by
        rw [hG.out, if_neg (by decide), if_neg (by decide), if_neg (by decide)]
        rfl
      have hst3 : Hid (TokEnd B m la Inf.init out n2 2) := Lib.hid ⟨fun h => absurd h (by decide), (head_round hst.out hgh).1⟩
      clear hgh hst hG
      have HH := Lib.hid (infail_any (g := g) (rg := rg) 2 (by decide) H2)
      go_wp2_with fail
      refine HH.out.mono ?_
      rintro e0 w4 ⟨_, rfl, H5⟩
      clear HH
      go_wp2_with fail
      go_roundw
      case rel => exact ⟨la, a, out, n2, 2, rfl, Lib.hid fun _ => hla2.out, ho, hn2, hst3, H5⟩
      case measure =>
        rw [hmz.out, imeas_own H5, if_neg (fun h => absurd h.2 (by decide))]
        omega
end Go.Proofs.Ytnebacnmbigaaaa
/- inflate: the walks of the laws on texts that were packed. -/
namespace Go.Proofs.Ytnebacnmbigaaaa
open Go.RowKit

def cutS (s : ByteArray) (k : Nat) : ByteArray := if k < s.size then s.extract 0 k else s
theorem cutS_size (s : ByteArray) (k : Nat) : (cutS s k).size ≤ k := by
  unfold cutS
  split
  · rw [ByteArray.size_extract]; omega
  · omega
theorem cut10_any (s : ByteArray) (k : Nat) (w : World) : Calls Try.prog 9 #[.string s, .int .i64 k] w (Ret fun r w' => r = .string (cutS s k) ∧ Own w w' []) := by
  have H := Own.start w
  obtain ⟨T, hT⟩ : ∃ T, Hid (cutS s k = T) := ⟨_, rfl⟩
  rw [hT.out]
  obtain ⟨N, hN⟩ : ∃ N, s.size = N := ⟨_, rfl⟩
  by_cases h : k < N
  · have hI : (k : Int) < (N : Int) := by omega
    have hc : (k : Int) ≤ (N : Int) := by omega
    have hs : Hid (s.extract 0 k = T) := Lib.hid (by rw [← hT.out]; unfold cutS; rw [if_pos (by omega)])
    go_enter Try.func9, Try.ntmps9
    go_wp2_with fail
    go_ret
    exact ⟨_, rfl, by first | (rw [← hs.out]; rfl) | (rw [hs.out]), H⟩
  · have hI : ¬ (k : Int) < (N : Int) := by omega
    have hs : Hid (s = T) := Lib.hid (by rw [← hT.out]; unfold cutS; rw [if_neg (by omega)])
    go_enter Try.func9, Try.ntmps9
    go_wp2_with fail
    go_ret
    exact ⟨_, rfl, by rw [← hs.out]; rfl, H⟩
set_option maxRecDepth 100000 in
set_option maxHeartbeats 1600000 in
theorem awake10_any (w : World) : Calls Try.prog 12 #[] w (Ret fun r w' => r = .bool true ∧ Own w w' []) := by
  have H := Own.start w
  have k1 := fun w => inflate_any w ⟨#[0x4b, 4, 0]⟩ 9 (by omega) (by decide)
  have k2 := fun w => inflate_any w ⟨#[0x4b, 4]⟩ 9 (by omega) (by decide)
  have k3 := fun w => inflate_any w ⟨#[0x4b, 4, 0]⟩ 0 (by omega) (by decide)
  replace k1 := Lib.hid k1
  replace k2 := Lib.hid k2
  replace k3 := Lib.hid k3
  go_enter Try.func12, Try.ntmps12
  go_wp2_with fail
  refine (k1.out _).mono ?_
  rintro e w1 ⟨_, rfl, t1, u1, e1, rfl, h1, J1⟩
  obtain ⟨rfl, rfl, rfl⟩ := exr_a h1
  replace H := H.join J1
  clear J1 h1 k1
  go_wp2_with fail
  refine (k2.out _).mono ?_
  rintro e w2 ⟨_, rfl, t2, u2, e2, rfl, h2, J2⟩
  obtain rfl := exr_b h2
  replace H := H.join J2
  clear J2 h2 k2
  go_wp2_with fail
  refine (k3.out _).mono ?_
  rintro e w3 ⟨_, rfl, t3, u3, e3, rfl, h3, J3⟩
  obtain rfl := exr_c h3
  replace H := H.join J3
  clear J3 h3 k3
  go_wp2_with fail
  go_ret
  exact ⟨_, rfl, rfl, H⟩
end Go.Proofs.Ytnebacnmbigaaaa
/- inflate: tokens in several blocks, plainly; slices of tokens. -/
namespace Go.Proofs.Ytnebacnmbigaaaa
open Go.RowKit

theorem exp_split {most : Int} : ∀ (a b : List Tok) (out r : List Int), exp most (a ++ b) out = .ok r → ∃ m, exp most a out = .ok m ∧ exp most b m = .ok r := by
  intro a
  induction a with
  | nil => intro b out r h; exact ⟨out, rfl, h⟩
  | cons t l ih =>
    intro b out r h
    rw [List.cons_append, exp] at h
    rw [exp]
    by_cases h1 : may t out.length = false
    · rw [if_pos h1] at h; cases h
    · rw [if_neg h1] at h ⊢
      by_cases h2 : IntKind.i64.wrap (most - out.length) < max t.len 1
      · rw [if_pos h2] at h; cases h
      · rw [if_neg h2] at h ⊢
        by_cases h3 : t.len = 0
        · rw [if_pos h3] at h ⊢; exact ih _ _ _ h
        · rw [if_neg h3] at h ⊢; exact ih _ _ _ h

/-- Bits that are unpacked as a beginning of the tokens' text, and do not end there. -/
def Pre (most : Int) (l : List Tok) (k : Nat) (bits : List Bool) : Prop :=
  ∃ res, exp most (l.take k) [] = .ok res ∧ (res.length : Int) ≤ most ∧ ∀ bs r, At bs 0 (bits ++ r) → Steps bs most Inf.init ⟨bits.length, res, none, false⟩ ∧ At bs bits.length r
theorem pre_nil {most : Int} {l : List Tok} (h0 : 0 ≤ most) : Pre most l 0 [] := ⟨[], rfl, by simpa using h0, fun bs r h => ⟨.refl _, by simpa using h⟩⟩
theorem pre_cut {most : Int} {l : List Tok} {k m : Nat} {fin res : List Int} (he : exp most l [] = .ok fin) (hk : exp most (l.take k) [] = .ok res) (hkm : k ≤ m) :
    ∃ r2, exp most (l.take m) [] = .ok r2 ∧ exp most ((l.take m).drop k) res = .ok r2 := by
  obtain ⟨r2, h1, -⟩ := exp_split (l.take m) (l.drop m) [] fin (by rw [List.take_append_drop]; exact he)
  have h2 : l.take m = l.take k ++ (l.take m).drop k := by
    conv => lhs; rw [← List.take_append_drop k (l.take m)]
    rw [List.take_take, Nat.min_eq_left hkm]
  obtain ⟨m1, h3, h4⟩ := exp_split (l.take k) ((l.take m).drop k) [] r2 (by rw [← h2]; exact h1)
  rw [hk] at h3
  cases h3
  exact ⟨r2, h1, h4⟩
theorem pre_block {most : Int} {l : List Tok} {k m : Nat} {bits : List Bool} {fin : List Int} (kind : Int) (hl : ∀ t ∈ l, TokOk t) (hn : l.length ≤ 1000000) (hm : most ≤ 1000000) (he : exp most l [] = .ok fin) (h : Pre most l k bits) (hkm : k ≤ m) :
    Pre most l m (bits ++ blockB ((l.take m).drop k) kind false) := by
  obtain ⟨res, h1, h2, h3⟩ := h
  obtain ⟨r2, h4, h5⟩ := pre_cut he h1 hkm
  have hlen : ((l.take m).drop k).length ≤ 1000000 := by rw [List.length_drop, List.length_take]; omega
  have hl' : ∀ t ∈ (l.take m).drop k, TokOk t := fun t ht => hl t (List.mem_of_mem_take (List.mem_of_mem_drop ht))
  have hle : (r2.length : Int) ≤ most := by
    have ha := h3 (bits ++ (blockB ((l.take m).drop k) kind false ++ [])) (blockB ((l.take m).drop k) kind false ++ []) ⟨Nat.zero_le _, rfl⟩
    exact (block_steps hl' hlen (by omega) h5 h2 ha.2).2.2
  refine ⟨r2, h4, hle, fun bs r ha => ?_⟩
  rw [List.append_assoc] at ha
  obtain ⟨h6, h7⟩ := h3 bs _ ha
  obtain ⟨h8, h9, -⟩ := block_steps hl' hlen (by omega) h5 h2 h7
  rw [List.length_append]
  exact ⟨h6.trans h8, h9⟩
theorem pre_last {most : Int} {l : List Tok} {k : Nat} {bits : List Bool} {fin : List Int} (kind : Int) (hl : ∀ t ∈ l, TokOk t) (hn : l.length ≤ 1000000) (hm : most ≤ 1000000) (he : exp most l [] = .ok fin) (h : Pre most l k bits) :
    Unp (bits ++ blockB (l.drop k) kind true) most fin := by
  obtain ⟨res, h1, h2, h3⟩ := h
  obtain ⟨m1, h4, h5⟩ := exp_split (l.take k) (l.drop k) [] fin (by rw [List.take_append_drop]; exact he)
  rw [h1] at h4
  cases h4
  intro bs r ha
  rw [List.append_assoc] at ha
  obtain ⟨h6, h7⟩ := h3 bs _ ha
  obtain ⟨h8, -, -⟩ := block_steps (fun t ht => hl t (List.mem_of_mem_drop ht)) (by rw [List.length_drop]; omega) (by omega) h5 h2 h7
  rw [List.length_append]
  exact h6.trans h8
/-- A slice of what is read. -/
theorem Rd.sliced {w : World} {size n k m c : Nat} {a : Option Addr} {xs : List Value} (h : Rd w size (.slice a n c) n xs) (hk : k ≤ m) (hm : m ≤ n) :
    Rd w size (sliced a k m c size) (m - k) ((xs.take (m * size)).drop (k * size)) := by
  have h1 := h.take hm
  cases a with
  | none =>
    obtain ⟨hl, a, c', e, h1, h2, h3, h4⟩ := h
    cases e
    obtain ⟨rfl, rfl⟩ := h3 rfl
    obtain rfl : m = 0 := by omega
    obtain rfl : k = 0 := by omega
    obtain rfl : xs = [] := List.eq_nil_of_length_eq_zero (by simpa using hl)
    simpa [_root_.Go.sliced] using Rd.nil w size
  | some ad =>
    have h2 := h1.tail hk
    unfold _root_.Go.sliced
    by_cases hc : c = k
    · obtain ⟨hl, a, c', e, h1, h2, h3, h4⟩ := h
      cases e
      obtain rfl : m = k := by omega
      rw [if_pos hc, Nat.sub_self, List.drop_eq_nil_of_le (by rw [List.length_take]; omega)]
      exact ⟨by simp, _, _, rfl, by omega, by omega, by simp, fun ad _ j u hu => by simp at hu⟩
    · rw [if_neg hc]
      exact h2
theorem Reads.sliced {w0 : World} {ps : List Piece} {n k m c : Nat} {a : Option Addr} {l : List Tok} (h : Reads w0 ps 3 (.slice a n c) n (rows tcell l)) (hk : k ≤ m) (hm : m ≤ n) :
    Reads w0 ps 3 (sliced a k m c 3) (m - k) (rows tcell ((l.take m).drop k)) := fun w' h' => by
  have := (h w' h').sliced hk hm
  rw [rows_take tcell tcell_length, rows_drop tcell tcell_length] at this
  exact this
end Go.Proofs.Ytnebacnmbigaaaa
/- inflate: the walk of InflateBlocks. -/
namespace Go.Proofs.Ytnebacnmbigaaaa
open Go.RowKit

/-- What is packed, in however many bits. -/
def Packed2 (s p : ByteArray) : Prop := ∃ Bs, p = textOf Bs ∧ Unp Bs s.size (byteNums s)
theorem packed2_back {s p t : ByteArray} {u e : Int} (hp : Packed2 s p) (h : InfRes (textBits p) s.size t u e) : t = s ∧ u = p.size ∧ e = 0 := by
  obtain ⟨bits, rfl, hu⟩ := hp
  have hi := infl_text (behind := ByteArray.empty) rfl hu
  rw [ByteArray.append_empty] at hi
  unfold InfRes at h
  rw [hi] at h
  obtain ⟨h1, h2, h3⟩ := h
  rw [strOf_nums] at h1
  exact ⟨h1, by rw [h2, textOf_size], h3⟩
theorem wpList_slice_from {P : Program} {ops : Array Oper} {rest : List Oper} {o : Oper} {a : Act} {w : World} {Q : Exit → Act → World → Prop} (hgd : o.guard = none) {ty : TypeId} (x lo : Operand) (ho : o.op = .slice ty x (some lo) none none)
    (ht : P.underlying ty = some (.slice (P.elem ty))) {size : Nat} (hsz : ∀ w, (sizeOf (P.elem ty)).run P w = .ok size w) {ad : Option Addr} {n c k : Nat} (hx : a.eval x = .slice ad n c) (hlo : a.eval lo = .int .i64 k) (hk : k ≤ n) {tv : Value} (hv : Hid (sliced ad k n c size = tv))
    (h : wpList P ops Q rest (a.put o.dst tv) w) : wpList P ops Q (o :: rest) a w := by
  refine wpList_plain hgd fun K hK => ?_
  have hr := run_slice_l (P := P) (w := w) ty ad n c ht .i64 (k : Int) (by omega) (by omega)
  rw [hsz, Result.andThen_ok, Int.toNat_natCast, hv.out] at hr
  unfold Oper.wp execOp
  simp only [ho, Sem.run_bind, Sem.run_pure, hx, hlo, Option.map_some, Option.map_none]
  rw [run_sliceAt_slice w ty _ _ _ _ ht, hr, Result.andThen_ok]
  exact hK _ _ h
set_option maxRecDepth 100000 in
set_option maxHeartbeats 6400000 in
theorem lawblocks10_any (s : ByteArray) {va vb : Value} {La Lb : Nat} {A B : List Int} {w : World} (ha : Rd w 1 va La (nums A)) (hb : Rd w 1 vb Lb (nums B)) :
    Calls Try.prog 5 #[.string s, va, vb] w (Ret fun r w' => r = .bool true ∧ Own w w' []) := by
  have H := Own.start w
  obtain ⟨pa, qa, rfl, hqa1, hqa2⟩ := ha.shape
  obtain ⟨pb, qb, rfl, hqb1, hqb2⟩ := hb.shape
  have HA := Lib.hid ha
  have HB := Lib.hid hb
  clear ha hb
  obtain ⟨t, ht⟩ : ∃ t, Hid (cutS s 1500 = t) := ⟨_, rfl⟩
  have hts : t.size ≤ 1500 := by rw [← ht.out]; exact cutS_size _ _
  have k1 := fun w => cut10_any s 1500 w
  rw [ht.out] at k1
  have K1 := Lib.hid k1
  have KA := Lib.hid awake10_any
  obtain ⟨T, hT⟩ : ∃ T, Hid (parse t = T) := ⟨_, rfl⟩
  have hok := parse_ok t
  have hlen := parse_len t
  have hex := exp_parse (s := t) (by omega)
  rw [hT.out] at hok hlen hex
  have HOK := Lib.hid hok
  have HEX := Lib.hid hex
  have kz := fun (w0 w1 : World) (ps : List Piece) (h : Own w0 w1 ps) => lzparse_any (s := t) h (by omega)
  obtain ⟨N, hN⟩ : ∃ N, Hid (T.length = N) := ⟨_, rfl⟩
  rw [hT.out, hN.out] at kz
  rw [hN.out] at hlen
  obtain ⟨n, hn⟩ : ∃ n, Hid (t.size = n) := ⟨_, rfl⟩
  rw [hn.out] at hts hlen
  have KZ := Lib.hid kz
  clear k1 ht hok hex kz hT
  go_enter Try.func5, Try.ntmps5
  go_wp2_with fail
  refine (K1.out _).mono ?_
  rintro e w1 ⟨_, rfl, rfl, J⟩
  replace H := H.join J
  clear J
  go_wp2_with fail
  refine (KZ.out _ _ _ H).mono ?_
  rintro e w2 ⟨v, rfl, H2⟩
  clear H K1 KZ
  obtain ⟨a, c, rfl, hc1, hc2⟩ := H2.rd.shape
  have H : Own w (w2.alloc (.cells #[.slice none 0 0, .int .i64 0] 34)) [Wtr w2.heap.size [], slc 44 3 (.slice a N c) N (rows tcell T)] := H2.newWtr
  clear H2
  go_upto_region 4 with (fail)
  generalize w2.alloc _ = w3 at *
  generalize w2.heap.size = g at *
  have HP : Hid (Pre n T 0 []) := Lib.hid (pre_nil (by omega))
  have HR : ∀ ps : List Piece, Reads w (slc 44 3 (.slice a N c) N (rows tcell T) :: ps) 3 (.slice a N c) N (rows tcell T) := fun ps w' h => h.rd
  replace HR := Lib.hid HR
  go_wp2_with fail
  go_loopw [9, 10] (fun v9 v10 wr => ∃ (k i : Nat) (Bs : List Bool), v9 = .int .i64 k ∧ v10 = .int .i64 i ∧ k ≤ N ∧ i ≤ 8 ∧ Bs.length ≤ i * 90000 ∧ Hid (Pre n T k Bs) ∧ Own w wr [Wtr g Bs, slc 44 3 (.slice a N c) N (rows tcell T)]) (fun _ v10 _ => 8 - (intOf v10).toNat)
  case atStart => exact ⟨0, 0, [], rfl, rfl, Nat.zero_le _, by omega, by simp, HP, H⟩
  case round =>
    clear H HP
    obtain ⟨k, i, Bs, rfl, rfl, hk, hi, hbl, HP, H⟩ := hrel
    by_cases hc : i < La ∧ i < Lb ∧ i < 8
    · obtain ⟨hi1, hi2, hi3⟩ := hc
      obtain ⟨b1, o1, rfl, -⟩ := rd_at HA.out H hi1
      obtain ⟨b2, o2, rfl, -⟩ := rd_at HB.out H hi2
      have gc : ∀ (w' : World) (ps : List Piece), Own w w' ps → w'.cell? ⟨b1, o1 + i, none⟩ = some (.int .i64 (A.getD i 0)) ∧ w'.cell? ⟨b2, o2 + i, none⟩ = some (.int .i64 (B.getD i 0)) := fun w' ps h => by
        obtain ⟨_, _, he, h1⟩ := rd_at HA.out h hi1
        obtain ⟨_, _, he2, h2⟩ := rd_at HB.out h hi2
        cases he; cases he2
        exact ⟨h1, h2⟩
      generalize A.getD i 0 = x at *
      generalize B.getD i 0 = kind at *
      have G := Lib.hid gc
      clear gc
      have hI1 : (i : Int) < (La : Int) := by omega
      have hI2 : (i : Int) < (Lb : Int) := by omega
      have hI3 : (i : Int) < 8 := by omega
      obtain ⟨y, hy⟩ : ∃ y, bits BinOp.and .i64 x 127 = y := ⟨_, rfl⟩
      have hym := i64_and_mask x 7 (by omega)
      rw [show (((2 ^ 7 - 1 : Nat)) : Int) = 127 from by decide, show ((2 ^ 7 : Nat) : Int) = 128 from by decide] at hym
      have hy1 : 0 ≤ y := by omega
      have hy2 : y ≤ 127 := by omega
      clear hym
      obtain ⟨c0, c1⟩ := G.out _ _ H
      go_upto_if 46 with (fail)
      go_cut [11] (fun v11 wx => ∃ m : Nat, v11 = .int .i64 m ∧ k ≤ m ∧ m ≤ N ∧ Own w wx [Wtr g Bs, slc 44 3 (.slice a N c) N (rows tcell T)])
      case first =>
        obtain ⟨z, rfl⟩ : ∃ z : Nat, y = z := ⟨y.toNat, by omega⟩
        by_cases hn : N < k + z
        · have hn1 : (N : Int) < (k : Int) + (z : Int) := by omega
          go_wp2
          go_meet
          exact ⟨N, rfl, hk, Nat.le_refl _, H⟩
        · have hn1 : ¬ (N : Int) < (k : Int) + (z : Int) := by omega
          go_wp2
          go_meet
          exact ⟨k + z, by simp, by omega, by omega, H⟩
      case rest =>
      clear H c0 c1 hy hy1 hy2
      obtain ⟨m, rfl, hkm, hmN, H⟩ := hcut
      obtain ⟨tv, htv⟩ : ∃ tv, Hid (sliced a k m c 3 = tv) := ⟨_, rfl⟩
      have hrd := (HR.out []).sliced hkm hmN
      rw [htv.out] at hrd
      obtain ⟨Q, hQ⟩ : ∃ Q, Hid ((T.take m).drop k = Q) := ⟨_, rfl⟩
      have hQl : Q.length = m - k := by rw [← hQ.out, List.length_drop, List.length_take, hN.out]; omega
      have hQo : ∀ t ∈ Q, TokOk t := fun t ht => HOK.out t (List.mem_of_mem_take (List.mem_of_mem_drop (by rw [hQ.out]; exact ht)))
      have hQs := blockB_size hQo (by omega) kind false
      rw [hQ.out, ← hQl] at hrd
      have kb := fun w1 (h : Own w w1 [Wtr g Bs, slc 44 3 (.slice a N c) N (rows tcell T)]) => block_any kind false hrd hQo (by omega) h (by omega)
      have KB := Lib.hid kb
      have hp2 := pre_block kind HOK.out (by rw [hN.out]; omega) (by omega) (by rw [← hn.out]; exact HEX.out) HP.out hkm
      rw [hQ.out] at hp2
      obtain ⟨B2, hB2⟩ : ∃ B2, Hid (Bs ++ blockB Q kind false = B2) := ⟨_, rfl⟩
      have hB2l : B2.length ≤ (i + 1) * 90000 := by rw [← hB2.out, List.length_append]; omega
      rw [hB2.out] at hp2
      have HP2 := Lib.hid hp2
      clear hp2 kb hrd hQo hQs HP
      have hmc : (m : Int) ≤ (c : Int) := by omega
      have hkmI : (k : Int) ≤ (m : Int) := by omega
      go_upto_region 11 with (fail)
      refine wp_region_calm (fun w1 => Own w w1 [Wtr g Bs, slc 44 3 (.slice a N c) N (rows tcell T)]) 8 (by kernel_rfl) (by kernel_rfl) H.drew ?_
      simp only [List.take_succ_cons, List.take_zero, List.drop_succ_cons, List.drop_zero]
      iterate 3
        refine calm_value (v := ?_) (by decide) rfl (fun σ w1 hS => ?_) ?_
        rotate_left
        · first | (go_simp; rfl) | rfl
        simp only [Act.put, List.setIfInBounds_toArray, List.set_cons_zero, List.set_cons_succ]
      refine calm_value (v := tv) (by decide) rfl (fun σ w1 hS => ?_) ?_
      · rw [← htv.out]
        go_simp
      simp only [Act.put, List.setIfInBounds_toArray, List.set_cons_zero, List.set_cons_succ]
      repeat
        first
        | (refine calm_value (v := ?_) (by decide) rfl (fun σ w1 hS => ?_) ?_
           rotate_left
           · obtain ⟨c0, c1⟩ := G.out _ _ hS
             first | (go_simp; rfl) | rfl
           simp only [Act.put, List.setIfInBounds_toArray, List.set_cons_zero, List.set_cons_succ])
        | (refine calm_skip (by decide) rfl ?_
           simp only [Act.put, List.setIfInBounds_toArray, List.set_cons_zero, List.set_cons_succ])
      refine calm_nil ?_
      intro wd HD
      clear H
      go_wp2_with fail
      refine (KB.out _ HD).mono ?_
      rintro e w4 ⟨_, rfl, H⟩
      rw [hB2.out] at H
      clear HD KB hB2
      go_wp2
      go_roundw
      case rel => exact ⟨m, i + 1, B2, rfl, by go_num, hmN, by omega, hB2l, HP2, H⟩
      case measure => simp [intOf]; omega
    · obtain ⟨tv, htv⟩ : ∃ tv, Hid (sliced a k N c 3 = tv) := ⟨_, rfl⟩
      have hrd := (HR.out []).sliced hk (Nat.le_refl _)
      rw [htv.out] at hrd
      obtain ⟨kind, hkind⟩ : ∃ x, bits BinOp.and .i64 (La : Int) 1 = x := ⟨_, rfl⟩
      obtain ⟨Q, hQ⟩ : ∃ Q, Hid (T.drop k = Q) := ⟨_, rfl⟩
      have hQ' : (T.take N).drop k = Q := by rw [List.take_of_length_le (by rw [hN.out]; exact Nat.le_refl _), hQ.out]
      have hQl : Q.length = N - k := by rw [← hQ.out, List.length_drop, hN.out]
      have hQo : ∀ t ∈ Q, TokOk t := fun t ht => HOK.out t (List.mem_of_mem_drop (by rw [hQ.out]; exact ht))
      have hQs := blockB_size hQo (by omega) kind true
      rw [hQ', ← hQl] at hrd
      have kb := fun w1 (h : Own w w1 [Wtr g Bs, slc 44 3 (.slice a N c) N (rows tcell T)]) => block_any kind true hrd hQo (by omega) h (by omega)
      have KB := Lib.hid kb
      have hp2 := pre_last kind HOK.out (by rw [hN.out]; omega) (by omega) (by rw [← hn.out]; exact HEX.out) HP.out
      rw [hQ.out] at hp2
      obtain ⟨B2, hB2⟩ : ∃ B2, Hid (Bs ++ blockB Q kind true = B2) := ⟨_, rfl⟩
      have hB2l : B2.length ≤ 900000 := by rw [← hB2.out, List.length_append]; omega
      rw [hB2.out] at hp2
      obtain ⟨p, hp⟩ : ∃ p, Hid (textOf B2 = p) := ⟨_, rfl⟩
      have hps : p.size ≤ 1000000 := by rw [← hp.out, textOf_size]; unfold nbytes; omega
      have KN := fun w => inflate_any w p n (by omega) hps
      replace KN := Lib.hid KN
      obtain ⟨np, hnp⟩ : ∃ np, Hid (p.size = np) := ⟨_, rfl⟩
      have hbk : ∀ (t1 : ByteArray) (u1 e1 : Int), InfRes (textBits p) (max (n : Int) 0) t1 u1 e1 → t1 = t ∧ u1 = np ∧ e1 = 0 := fun t1 u1 e1 h => by
        rw [Int.max_eq_left (by omega), ← hn.out] at h
        rw [← hnp.out]
        have hpk : Packed2 t p := ⟨B2, hp.out.symm, by rw [← bnum_nums, hn.out]; rw [hn.out] at hp2; exact hp2⟩
        exact packed2_back hpk h
      replace hbk := Lib.hid hbk
      have hnp1 : p.size = np := hnp.out
      have hn1 : t.size = n := hn.out
      clear hp2 kb hrd hQo hQs HP hQ' hnp hn HEX
      have hNc : (N : Int) ≤ (c : Int) := by omega
      have hkI : (k : Int) ≤ (N : Int) := by omega
      have hex : ¬ (i : Int) < (La : Int) ∨ (i : Int) < (La : Int) ∧ ¬ (i : Int) < (Lb : Int) ∨ (i : Int) < (La : Int) ∧ (i : Int) < (Lb : Int) ∧ ¬ (i : Int) < 8 := by omega
      rcases hex with h1 | ⟨h1, h2⟩ | ⟨h1, h2, h3⟩
      all_goals
        go_upto_region 13 with (fail)
        go_wp2_with (refine wpList_slice_from rfl _ _ rfl (by kernel_rfl) (fun _ => by kernel_rfl) rfl rfl hk htv ?_)
        refine (KB.out _ H).mono ?_
        rintro e w4 ⟨_, rfl, H4⟩
        rw [hB2.out] at H4
        clear H KB
        go_wp2_with fail
        refine (bytes_any H4).mono ?_
        rintro e w5 ⟨rfl, rfl⟩
        rw [hp.out]
        go_wp2_with fail
        refine (KN.out _).mono ?_
        rintro e w6 ⟨_, rfl, t1, u1, e1, rfl, hr, J⟩
        obtain ⟨rfl, rfl, rfl⟩ := hbk.out _ _ _ hr
        have H := H4.join J
        clear J H4 hr hbk KN
        go_wp2_with fail
        refine (KA.out _).mono ?_
        rintro e w7 ⟨_, rfl, rfl, J⟩
        replace H := H.join J
        clear J
        go_wp2
        go_ret
        exact ⟨_, rfl, rfl, H.bare⟩
end Go.Proofs.Ytnebacnmbigaaaa
/- What comes in: texts. -/
namespace Go.Proofs.Ytnebacnmbigaaaa
open Go.RowKit Go.ChangeShapes Go.WideShapes Go.Deep

theorem flatMap_oneT {α β : Type _} (g : α → β) (l : List α) : (l.flatMap fun i => [g i]) = l.map g := by
  induction l with
  | nil => rfl
  | cons x l ih => simp [ih]
theorem open_txs {H : Type} {enc : TypeId × Value → H} {W : World} {a : Option Addr} {len cap : Nat} {d : DataW H} {p : List MemPlace}
    (h : DataW.Trod enc Try.prog W 0 (fun _ => true) true 30 (.slice a len cap) d p) :
    ∃ L : List ByteArray, L.length = len ∧ Rd W 1 (.slice a len cap) L.length (txs L) := by
  obtain ⟨E, hr, hE, _⟩ := rd_open 1 Try.underlying30 (by kernel_rfl) rfl h
  obtain ⟨f, hf⟩ := choose_lt (α := ByteArray) (p := fun i x => E i = [.string x]) (fun i hi => by
    obtain ⟨_, m, x, hx⟩ := hE i hi
    obtain ⟨s, hs, _⟩ := DataW.trod_string Try.underlying9 hx
    exact ⟨s, hs⟩)
  refine ⟨(List.range len).map f, by simp, ?_⟩
  have e : txs ((List.range len).map f) = (List.range len).flatMap E := by
    have h1 : (List.range len).flatMap E = (List.range len).flatMap fun i => [.string (f i)] := flatMap_congr_range fun i hi => hf i hi
    rw [h1]
    rw [flatMap_oneT]
    simp [txs]
  rw [e]
  simpa using hr
end Go.Proofs.Ytnebacnmbigaaaa
/- inflate: blocks of bytes, and of tokens, one behind the other, plainly. -/
namespace Go.Proofs.Ytnebacnmbigaaaa
open Go.RowKit

theorem copyN_behind (d : Nat) (out x : List Int) (h : d ≤ x.length) : ∀ k, copyN d (out ++ x) k = out ++ copyN d x k := by
  intro k
  induction k with
  | zero => rfl
  | succ k ih =>
    rw [copyN, copyN, ih, ← List.append_assoc]
    congr 2
    rw [List.length_append, copyN_length, List.getD_eq_getElem?_getD, List.getD_eq_getElem?_getD, List.getElem?_append_right (by omega)]
    congr 2
    omega
theorem exp_behind {m M : Int} {out : List Int} (h2 : m + out.length ≤ M) (h3 : M ≤ 1000000) :
    ∀ (l : List Tok) (x r : List Int), exp m l x = .ok r → (x.length : Int) ≤ m → exp M l (out ++ x) = .ok (out ++ r) := by
  intro l
  induction l with
  | nil => intro x r h hx; cases h; rfl
  | cons t l ih =>
    intro x r h hx
    rw [exp] at h ⊢
    by_cases hm : may t x.length = false
    · rw [if_pos hm] at h; cases h
    · rw [if_neg hm] at h
      have hmt : may t x.length = true := by simpa using hm
      have hm2 : may t (out ++ x).length = true := by
        unfold may at hmt ⊢
        rw [List.length_append]
        by_cases h0 : t.len = 0
        · rw [if_pos h0] at hmt ⊢; exact hmt
        · rw [if_neg h0] at hmt ⊢
          have := of_decide_eq_true hmt
          exact decide_eq_true (by omega)
      rw [if_neg (by rw [hm2]; decide)]
      have w1 : IntKind.i64.wrap (m - (x.length : Int)) = m - x.length := IntWalk.i64_in _ ⟨by omega, by omega⟩
      have w2 : IntKind.i64.wrap (M - ((out ++ x).length : Int)) = M - ((out ++ x).length : Int) := IntWalk.i64_in _ ⟨by rw [List.length_append]; omega, by rw [List.length_append]; omega⟩
      rw [w1] at h
      rw [w2]
      by_cases hl : m - (x.length : Int) < max t.len 1
      · rw [if_pos hl] at h; cases h
      · rw [if_neg hl] at h
        rw [if_neg (by rw [List.length_append]; omega)]
        by_cases h0 : t.len = 0
        · rw [if_pos h0] at h ⊢
          rw [List.append_assoc]
          exact ih _ _ h (by rw [List.length_append]; simp; omega)
        · rw [if_neg h0] at h ⊢
          unfold may at hmt
          rw [if_neg h0] at hmt
          have hq := of_decide_eq_true hmt
          rw [copyN_behind _ _ _ (by omega)]
          exact ih _ _ h (by rw [copyN_length]; omega)
/-- Bits that are unpacked as this text, whatever the limit. -/
def Txt (S : ByteArray) (Bs : List Bool) (last : Bool) : Prop :=
  ∀ most : Int, (S.size : Int) ≤ most → most ≤ 1000000 → ∀ bs r, At bs 0 (Bs ++ r) → Steps bs most Inf.init ⟨Bs.length, byteNums S, none, last⟩ ∧ At bs Bs.length r
theorem txt_nil : Txt ByteArray.empty [] false := fun most h0 h1 bs r h => ⟨.refl _, by simpa using h⟩
theorem byteNums_append (a b : ByteArray) : byteNums (a ++ b) = byteNums a ++ byteNums b := by
  unfold byteNums
  rw [ByteArray.data_append, Array.toList_append, List.map_append]
theorem txt_stored {S p : ByteArray} {Bs : List Bool} (last : Bool) (hp : p.size ≤ 65535) (h : Txt S Bs false) : Txt (S ++ p) (Bs ++ storedB last p Bs.length) last := by
  intro most h0 h1 bs r ha
  rw [ByteArray.size_append] at h0
  rw [List.append_assoc] at ha
  obtain ⟨h2, h3⟩ := h most (by omega) h1 bs _ ha
  obtain ⟨h4, h5⟩ := stored_steps (most := most) (out := byteNums S) hp (by rw [byteNums_size]; omega) h3
  rw [List.length_append, byteNums_append]
  exact ⟨h2.trans h4, h5⟩
theorem txt_fixed {S p : ByteArray} {Bs : List Bool} (last : Bool) (hp : p.size ≤ 65535) (h : Txt S Bs false) : Txt (S ++ p) (Bs ++ blockB (parse p) 1 last) last := by
  intro most h0 h1 bs r ha
  rw [ByteArray.size_append] at h0
  rw [List.append_assoc] at ha
  obtain ⟨h2, h3⟩ := h most (by omega) h1 bs _ ha
  have he := exp_parse (s := p) (by omega)
  have he2 := exp_behind (m := (p.size : Int)) (M := most) (out := byteNums S) (by rw [byteNums_size]; omega) h1 _ _ _ he (by simp)
  rw [List.append_nil] at he2
  obtain ⟨h4, h5, -⟩ := block_steps (most := most) (out := byteNums S) (parse_ok p) (by have := parse_len p; omega) (by omega) he2 (by rw [byteNums_size]; omega) h3
  rw [List.length_append, byteNums_append, ← bnum_nums p]
  exact ⟨h2.trans h4, h5⟩
theorem txt_packed {S : ByteArray} {Bs : List Bool} (hs : S.size ≤ 1000000) (h : Txt S Bs true) : Packed2 S (textOf Bs) :=
  ⟨Bs, rfl, fun bs r ha => (h S.size (by omega) (by omega) bs r ha).1⟩
theorem storedB_size (last : Bool) (t : ByteArray) (n : Nat) : (storedB last t n).length ≤ 8 * t.size + 50 := by
  unfold storedB
  have : padN (n + 3) ≤ 8 := by unfold padN; omega
  simp only [List.length_append, List.length_replicate, bitsOf_length, headB, List.length_cons, textBits_length]
  omega
theorem codeF_fixD : ∀ y : Fin 32, codeF fixD y.1 = (y.1 : Int) := by decide +kernel
theorem getD_fixD : ∀ y : Fin 32, fixD.getD y.1 0 = 5 := by decide +kernel
theorem cbits_fixD {y : Nat} (h : y < 32) : (bitsOf (y : Int) (cut 5)).reverse = cbits fixD y := by
  have h1 := codeF_fixD ⟨y, h⟩
  have h2 := getD_fixD ⟨y, h⟩
  simp only at h1 h2
  unfold cbits
  rw [h1, h2]
  rfl
end Go.Proofs.Ytnebacnmbigaaaa
/- inflate: the walk of InflateAny. -/
namespace Go.Proofs.Ytnebacnmbigaaaa
open Go.RowKit

theorem chunk_stored (last : Bool) (t : ByteArray) (B : List Bool) : chunkB last t B = B ++ storedB last t B.length := by
  unfold chunkB storedB aligned
  simp [headB, bitsOf_length]
theorem fixCode_any {w0 w : World} {ps : List Piece} {g s : Nat} {bs : List Bool} (hs : s < 288) (H : Own w0 w (Wtr g bs :: ps)) (hl : bs.length ≤ 35184372087000) :
    Calls Try.prog 19 #[.pointer (some ⟨g, 0, none⟩), .int .i64 (codeF fixL s), .int .i64 (fixL.getD s 0)] w (Ret fun _ w' => Own w0 w' (Wtr g (bs ++ cbits fixL s) :: ps)) := by
  have h1 : 0 ≤ fixL.getD s 0 ∧ fixL.getD s 0 ≤ 15 := fixL_bd _ (mem_getD2 (by rw [fixL_ok.1]; exact hs))
  have h2 := code_nonneg (l := fixL) s
  have h3 : codeF fixL s ≤ 32768 := by
    have h4 := code_fits fixL_bd fixL_wt (by rw [fixL_ok.1]; exact hs) (fixL_pos ⟨s, hs⟩)
    obtain ⟨p, hp, h5, h6⟩ := pow_pos_nat (fixL.getD s 0).toNat (by omega)
    simp only at h4
    rw [hp] at h4
    omega
  have hw := code_any (codeF fixL s) (fixL.getD s 0) (by omega) (by omega) H (by omega)
  have hcb : (bitsOf (codeF fixL s) (cut (fixL.getD s 0))).reverse = cbits fixL s := by unfold cbits; rw [cut_eq h1.1 (by omega)]
  rw [hcb] at hw
  exact hw
theorem fixDist_any {w0 w : World} {ps : List Piece} {g y : Nat} {bs : List Bool} (hy : y < 32) (H : Own w0 w (Wtr g bs :: ps)) (hl : bs.length ≤ 35184372087000) :
    Calls Try.prog 19 #[.pointer (some ⟨g, 0, none⟩), .int .i64 y, .int .i64 5] w (Ret fun _ w' => Own w0 w' (Wtr g (bs ++ cbits fixD y) :: ps)) := by
  have hw := code_any (y : Int) 5 (by omega) (by omega) H (by omega)
  rw [cbits_fixD hy] at hw
  exact hw

set_option maxRecDepth 100000 in
set_option maxHeartbeats 12800000 in
theorem lawany10_any {va vb : Value} {A : List ByteArray} {B : List Int} {w : World} (ha : Rd w 1 va A.length (txs A)) (hb : Rd w 1 vb B.length (nums B)) :
    Calls Try.prog 4 #[va, vb] w (Ret fun r w' => r = .bool true ∧ Own w w' []) := by
  obtain ⟨La, hLa⟩ : ∃ n, Hid (A.length = n) := ⟨_, rfl⟩
  obtain ⟨Lb, hLb⟩ : ∃ n, Hid (B.length = n) := ⟨_, rfl⟩
  rw [hLa.out] at ha
  rw [hLb.out] at hb
  obtain ⟨pa, qa, rfl, hqa1, hqa2⟩ := ha.shape
  obtain ⟨pb, qb, rfl, hqb1, hqb2⟩ := hb.shape
  have HA := Lib.hid ha
  have HB := Lib.hid hb
  clear ha hb
  have KA := Lib.hid awake10_any
  have H : Own w (w.alloc (.cells #[.slice none 0 0, .int .i64 0] 34)) [Wtr w.heap.size []] := (Own.start w).newWtr
  go_enter Try.func4, Try.ntmps4
  go_upto_region 2 with (fail)
  generalize w.alloc _ = w1 at *
  generalize w.heap.size = g at *
  go_upto_region 4 with (fail)
  obtain ⟨n, hn, hnA, hnB, hn5⟩ : ∃ n : Nat, (if (5 : Int) < (if Lb < La then (Lb : Int) else La) then (5 : Int) else if Lb < La then (Lb : Int) else La) = n ∧ n ≤ La ∧ n ≤ Lb ∧ n ≤ 5 :=
    ⟨min La (min Lb 5), by split <;> split <;> omega, by omega, by omega, by omega⟩
  rw [hn]
  clear hn
  have HP : Hid (Txt ByteArray.empty [] false) := Lib.hid txt_nil
  go_wp2_with fail
  go_loopw [6, 8] (fun v6 v8 wr => ∃ (i : Nat) (S : ByteArray) (Bs : List Bool) (last : Bool), v6 = .string S ∧ v8 = .int .i64 i ∧ i ≤ n ∧ S.size ≤ i * 200 ∧ Bs.length ≤ i * 25000 ∧ Hid (last = decide (0 < i ∧ i = n)) ∧ Hid (Txt S Bs last) ∧ Own w wr [Wtr g Bs]) (fun _ v8 _ => n - (intOf v8).toNat)
  case atStart => exact ⟨0, ⟨#[]⟩, [], false, rfl, rfl, Nat.zero_le _, by decide, by simp, Lib.hid (by simp), HP, H⟩
  case round =>
    clear H HP
    obtain ⟨i, S, Bs, last, rfl, rfl, hi, hS, hbl, hla, HP, H⟩ := hrel
    by_cases hc : i < n
    · have hcI : (i : Int) < (n : Int) := by omega
      obtain rfl : last = false := by rw [hla.out]; exact decide_eq_false (by omega)
      have hiA : i < La := by omega
      have hiB : i < Lb := by omega
      clear hla
      obtain ⟨b1, o1, _, e1, -⟩ := HA.out.some (by unfold txs; rw [List.length_map, hLa.out]; omega)
      cases e1
      obtain ⟨b2, o2, rfl, -⟩ := rd_at HB.out H hiB
      have gc : ∀ (w' : World) (ps : List Piece), Own w w' ps → w'.cell? ⟨b1, o1 + i, none⟩ = some (.string (A[i]'(by rw [hLa.out]; exact hiA))) ∧ w'.cell? ⟨b2, o2 + i, none⟩ = some (.int .i64 (B.getD i 0)) := fun w' ps h => by
        obtain ⟨_, _, he2, h2⟩ := rd_at HB.out h hiB
        cases he2
        exact ⟨(HA.out.old h).cell (by unfold txs; rw [List.getElem?_map, List.getElem?_eq_getElem (by rw [hLa.out]; exact hiA)]; rfl), h2⟩
      generalize A[i]'(by rw [hLa.out]; exact hiA) = a at *
      generalize B.getD i 0 = kd at *
      have G := Lib.hid gc
      clear gc
      obtain ⟨t, ht⟩ : ∃ t, Hid (cutS a 200 = t) := ⟨_, rfl⟩
      have hts : t.size ≤ 200 := by rw [← ht.out]; exact cutS_size _ _
      have k1 := fun w => cut10_any a 200 w
      rw [ht.out] at k1
      have K1 := Lib.hid k1
      clear k1 ht
      obtain ⟨c0, c1⟩ := G.out _ _ H
      go_wp2_with fail
      refine (K1.out _).mono ?_
      rintro e w2 ⟨_, rfl, rfl, J⟩
      replace H := H.join J
      clear J c0 c1 K1
      obtain ⟨c0, c1⟩ := G.out _ _ H
      obtain ⟨lb, hlb⟩ : ∃ b, Hid (decide (i + 1 = n) = b) := ⟨_, rfl⟩
      go_upto_if 48 with (fail)
      go_cut [10] (fun v10 wx => wx = w2 ∧ v10 = .int .i64 (bi lb))
      case first =>
        by_cases hin : i + 1 = n
        · have hlb2 : Hid (bi lb = 1) := Lib.hid (by rw [← hlb.out, decide_eq_true hin]; rfl)
          have hb : ((i : Int) == (n : Int) - 1) = true := by simp; omega
          clear hin
          go_wp2
          go_meet
          exact ⟨rfl, by rw [hlb2.out]⟩
        · have hlb2 : Hid (bi lb = 0) := Lib.hid (by rw [← hlb.out, decide_eq_false hin]; rfl)
          have hb : ((i : Int) == (n : Int) - 1) = false := by simp; omega
          clear hin
          go_wp2
          go_meet
          exact ⟨rfl, by rw [hlb2.out]⟩
      case rest =>
      obtain ⟨rfl, rfl⟩ := hcut
      have k1 := put_any (bi lb) 1 (by cases lb <;> decide) (by omega) H (by omega)
      rw [show bitsOf (bi lb) (cut 1) = [lb] by cases lb <;> decide] at k1
      replace K1 := Lib.hid k1
      have hbi : -1 ≤ bi lb ∧ bi lb ≤ 1 := by cases lb <;> decide
      obtain ⟨vl, hvl⟩ : ∃ v, Hid (bi lb = v) := ⟨_, rfl⟩
      rw [hvl.out] at K1 hbi ⊢
      clear k1
      go_wp2_with fail
      refine K1.out.mono ?_
      rintro e w3 ⟨_, rfl, H3⟩
      clear H K1 c0 c1
      obtain ⟨c0, c1⟩ := G.out _ _ H3
      obtain ⟨y, hy⟩ : ∃ y, bits BinOp.and .i64 kd 1 = y := ⟨_, rfl⟩
      have hfin : Hid (lb = decide (0 < i + 1 ∧ i + 1 = n)) := Lib.hid (by rw [← hlb.out]; simp)
      have hS2 : Hid ((S ++ t).size ≤ (i + 1) * 200) := Lib.hid (by rw [ByteArray.size_append]; omega)
      by_cases hk : y = 0
      · have hb : (y == 0) = true := by simp [hk]
        clear hk
        have k2 := fun w1 (h : Own w w1 [Wtr g (Bs ++ [lb])]) => put_any 0 2 (by omega) (by omega) h (by rw [List.length_append]; simp; omega)
        rw [List.append_assoc, show [lb] ++ bitsOf 0 (cut 2) = headB lb 0 from rfl] at k2
        have k3 := fun w1 (h : Own w w1 [Wtr g (Bs ++ headB lb 0)]) => align_any h (by rw [List.length_append]; simp [headB, bitsOf_length]; omega)
        have hal : (aligned (Bs ++ headB lb 0)).length ≤ 11000000 := by rw [aligned_length, List.length_append]; simp [headB, bitsOf_length, nbytes]; omega
        have ham := aligned_mod (Bs ++ headB lb 0)
        obtain ⟨X, hX⟩ : ∃ X, Hid (aligned (Bs ++ headB lb 0) = X) := ⟨_, Lib.hid rfl⟩
        rw [hX.out] at k3 hal ham
        obtain ⟨N, hN⟩ : ∃ N, t.size = N := ⟨_, rfl⟩
        rw [hN] at hts
        have k4 := fun w1 (h : Own w w1 [Wtr g X]) => put_any (N : Int) 16 (by omega) (by omega) h (by omega)
        have k5 := fun w1 (h : Own w w1 [Wtr g (X ++ bitsOf (N : Int) 16)]) => put_any (65535 - (N : Int)) 16 (by omega) (by omega) h (by rw [List.length_append, bitsOf_length]; omega)
        rw [show cut 16 = 16 from rfl] at k4 k5
        have hal2 : aligned (X ++ bitsOf (N : Int) 16 ++ bitsOf (65535 - (N : Int)) 16) = X ++ bitsOf (N : Int) 16 ++ bitsOf (65535 - (N : Int)) 16 := aligned_id (by rw [List.length_append, List.length_append, bitsOf_length, bitsOf_length]; omega)
        have k6 := fun w1 (h : Own w w1 [Wtr g (X ++ bitsOf (N : Int) 16 ++ bitsOf (65535 - (N : Int)) 16)]) => text_any t h (by rw [List.length_append, List.length_append, bitsOf_length, bitsOf_length]; omega)
        rw [hal2] at k6
        have hch : Hid (X ++ bitsOf (N : Int) 16 ++ bitsOf (65535 - (N : Int)) 16 ++ textBits t = Bs ++ storedB lb t Bs.length) := Lib.hid (by rw [← chunk_stored]; unfold chunkB; rw [hX.out, hN]; simp only [List.append_assoc])
        have hsz := storedB_size lb t Bs.length
        have HP2 := Lib.hid (txt_stored lb (p := t) (by omega) HP.out)
        obtain ⟨B2, hB2⟩ : ∃ B2, Hid (Bs ++ storedB lb t Bs.length = B2) := ⟨_, rfl⟩
        have hB2l : Hid (B2.length ≤ (i + 1) * 25000) := Lib.hid (by rw [← hB2.out, List.length_append]; omega)
        rw [hB2.out] at HP2 hch
        have K2 := Lib.hid k2
        have K3 := Lib.hid k3
        have K4 := Lib.hid k4
        have K5 := Lib.hid k5
        have K6 := Lib.hid k6
        clear k2 k3 k4 k5 k6 hal ham hal2 hsz hB2
        go_wp2_with fail
        refine (K2.out _ H3).mono ?_
        rintro e w4 ⟨_, rfl, H4⟩
        clear H3
        go_wp2_with fail
        refine (K3.out _ H4).mono ?_
        rintro e w5 ⟨_, rfl, H5⟩
        clear H4
        go_wp2_with fail
        refine (K4.out _ H5).mono ?_
        rintro e w6 ⟨_, rfl, H6⟩
        clear H5
        go_wp2_with fail
        refine (K5.out _ H6).mono ?_
        rintro e w7 ⟨_, rfl, H7⟩
        clear H6
        go_wp2_with fail
        refine (K6.out _ H7).mono ?_
        rintro e w8 ⟨_, rfl, H8⟩
        rw [hch.out] at H8
        clear H7
        go_wp2_with fail
        go_roundw
        case rel => exact ⟨i + 1, S ++ t, B2, lb, rfl, by go_num, by omega, hS2.out, hB2l.out, hfin, HP2, H8⟩
        case measure => simp [intOf]; omega
      · have hb : (y == 0) = false := by simp [hk]
        clear hk
        have k2 := put_any 1 2 (by omega) (by omega) H3 (by rw [List.length_append]; simp; omega)
        rw [List.append_assoc, show [lb] ++ bitsOf 1 (cut 2) = headB lb 1 from rfl] at k2
        have K2 := Lib.hid k2
        clear k2
        obtain ⟨T, hT⟩ : ∃ T, Hid (parse t = T) := ⟨_, rfl⟩
        have hok := parse_ok t
        have hlen := parse_len t
        have hbs := blockB_size (parse_ok t) (by omega) 1 lb
        have HP2 := Lib.hid (txt_fixed lb (p := t) (by omega) HP.out)
        obtain ⟨B2, hB2⟩ : ∃ B2, Hid (Bs ++ blockB (parse t) 1 lb = B2) := ⟨_, rfl⟩
        have hB2l : Hid (B2.length ≤ (i + 1) * 25000) := Lib.hid (by rw [← hB2.out, List.length_append]; omega)
        rw [hB2.out] at HP2
        have hb1 : blockB T 1 lb = headB lb 1 ++ bodyB fixL fixD T := by unfold blockB; rw [if_pos rfl]
        rw [hT.out] at hok hlen hbs hB2
        rw [hb1, ← List.append_assoc] at hB2
        have hsk := fun k => toksB_take_le fixL_bd fixD_bd hok k
        have HOK := Lib.hid hok
        have kz := fun (w0 w1 : World) (ps : List Piece) (h : Own w0 w1 ps) => lzparse_any (s := t) h (by omega)
        obtain ⟨N, hN⟩ : ∃ N, Hid (T.length = N) := ⟨_, rfl⟩
        rw [hT.out, hN.out] at kz
        rw [hN.out] at hlen hsk
        have HSK := Lib.hid hsk
        have KZ := Lib.hid kz
        clear kz hok hbs hb1 hsk hT
        obtain ⟨B1, hB1⟩ : ∃ B1, Hid (Bs ++ headB lb 1 = B1) := ⟨_, rfl⟩
        have hB1l : B1.length ≤ 200000 := by rw [← hB1.out, List.length_append]; simp [headB, bitsOf_length]; omega
        rw [hB1.out] at K2 hB2
        go_wp2_with fail
        refine K2.out.mono ?_
        rintro e w4 ⟨_, rfl, H4⟩
        clear H3 K2 c0 c1
        go_wp2_with fail
        refine (fixed_any _).mono ?_
        rintro e w5 ⟨_, rfl, v, u, rfl, J⟩
        have H : Own w w5 [Wtr g B1, slc 3 1 v 288 (nums fixL)] := ((H4.join J).drop).swap
        clear H4 J
        obtain ⟨ba, oa, ca, rfl, hca1, hca2⟩ := (H.front 1 rfl).rd.some (by rw [nums_length, fixL_ok.1]; omega)
        have kc := codes_any (w := w5) (H.front 1 rfl).rd (by omega)
        have hcr : cresF fixL = codesF fixL := by unfold cresF; rw [if_pos fixL_ok.2.1]
        rw [fixL_ok.2.1, hcr, codesF_length, fixL_ok.1] at kc
        have KC := Lib.hid kc
        clear kc hcr
        go_wp2_with fail
        refine KC.out.mono ?_
        rintro e w6 ⟨_, rfl, ov, rfl, J⟩
        have H : Own w w6 [Wtr g B1, slc 3 1 (.slice (some ⟨ba, oa, none⟩) 288 ca) 288 (nums fixL), slc 3 1 ov 288 (nums (codesF fixL))] := (H.join J).front 1 rfl |>.front 2 rfl |>.swap
        clear J KC
        obtain ⟨bc, oc, cc, rfl, hcc1, hcc2⟩ := (H.front 2 rfl).rd.some (by rw [nums_length, codesF_length, fixL_ok.1]; omega)
        go_wp2_with fail
        refine (KZ.out _ _ _ H).mono ?_
        rintro e w7 ⟨tv, rfl, J⟩
        obtain ⟨ta, tc, rfl, htc1, htc2⟩ := J.rd.shape
        replace H : Own w w7 [Wtr g B1, slc 3 1 (.slice (some ⟨ba, oa, none⟩) 288 ca) 288 (nums fixL), slc 3 1 (.slice (some ⟨bc, oc, none⟩) 288 cc) 288 (nums (codesF fixL)), slc 44 3 (.slice ta N tc) N (rows tcell T)] := J.front 3 rfl |>.front 3 rfl |>.front 3 rfl
        clear J KZ
        have HF : Hid (∀ (w' : World) (X : List Bool) (s : Nat), s < 288 → Own w w' [Wtr g X, slc 3 1 (.slice (some ⟨ba, oa, none⟩) 288 ca) 288 (nums fixL), slc 3 1 (.slice (some ⟨bc, oc, none⟩) 288 cc) 288 (nums (codesF fixL)), slc 44 3 (.slice ta N tc) N (rows tcell T)] → w'.cell? ⟨ba, oa + s, none⟩ = some (.int .i64 (fixL.getD s 0)) ∧ w'.cell? ⟨bc, oc + s, none⟩ = some (.int .i64 (codeF fixL s))) := Lib.hid fun w' X s hs h => by
          obtain ⟨_, _, e1, h1⟩ := rd_at (h.front 1 rfl).rd (Own.start w') hs
          obtain ⟨_, _, e2, h2⟩ := rd_at (h.front 2 rfl).rd (Own.start w') hs
          cases e1; cases e2
          rw [codesF_get (by rw [fixL_ok.1]; exact hs)] at h2
          exact ⟨h1, h2⟩
        clear hB1
        go_wp2_with fail
        go_loopw [16] (fun s16 wx => ∃ k : Nat, s16 = .int .i64 k ∧ k ≤ N ∧ Own w wx [Wtr g (B1 ++ toksB fixL fixD (T.take k)), slc 3 1 (.slice (some ⟨ba, oa, none⟩) 288 ca) 288 (nums fixL), slc 3 1 (.slice (some ⟨bc, oc, none⟩) 288 cc) 288 (nums (codesF fixL)), slc 44 3 (.slice ta N tc) N (rows tcell T)]) (fun s16 _ => N - (intOf s16).toNat)
        case atStart => exact ⟨0, by go_num, by omega, by simpa [toksB] using H⟩
        case round =>
          clear H
          obtain ⟨k, rfl, hk, H⟩ := hrel
          have hlk := HSK.out k
          obtain ⟨X, hX⟩ : ∃ X, Hid (B1 ++ toksB fixL fixD (T.take k) = X) := ⟨_, rfl⟩
          have hXl : X.length ≤ 300000 := by rw [← hX.out, List.length_append]; omega
          rw [hX.out] at H
          by_cases hlt : k < N
          · have hI : (k : Int) < (N : Int) := by omega
            obtain ⟨q, htk⟩ := get_of_lt (l := T) (k := k) (by rw [hN.out]; exact hlt)
            have hso := fix_sym (HOK.out q (List.mem_of_getElem? htk))
            have hX2 : Hid (B1 ++ toksB fixL fixD (T.take (k + 1)) = X ++ tbits fixL fixD q) := Lib.hid (by rw [toksB_succ htk, ← List.append_assoc, hX.out])
            obtain ⟨tb, ot, _, e1, -⟩ := (H.front 3 rfl).rd.some (by rw [rows_length tcell tcell_length, hN.out]; omega)
            cases e1
            have HT : Hid (∀ (w' : World) (X : List Bool), Own w w' [Wtr g X, slc 3 1 (.slice (some ⟨ba, oa, none⟩) 288 ca) 288 (nums fixL), slc 3 1 (.slice (some ⟨bc, oc, none⟩) 288 cc) 288 (nums (codesF fixL)), slc 44 3 (.slice (some ⟨tb, ot, none⟩) N tc) N (rows tcell T)] → w'.cell? ⟨tb, ot + k * 3, none⟩ = some (.int .i64 q.len) ∧ w'.cell? ⟨tb, ot + k * 3 + 1, none⟩ = some (.int .i64 q.dist) ∧ w'.cell? ⟨tb, ot + k * 3 + 2, none⟩ = some (.int .i64 q.lit)) := Lib.hid fun w' X h => tok_cells (h.front 3 rfl).rd htk
            obtain ⟨x, y2, z⟩ := q
            simp only at HT
            have hok := hso.1
            clear htk hlk
            by_cases hx : x = 0
            · subst hx
              have hz : 0 ≤ z ∧ z < 256 := by rcases hok with h | h <;> simp only at h <;> omega
              obtain ⟨s, rfl⟩ : ∃ s : Nat, z = s := ⟨z.toNat, by omega⟩
              have hsl : s < 288 := by omega
              have hzm := i64_and_mask (s : Int) 8 (by omega)
              rw [show (((2 ^ 8 - 1 : Nat)) : Int) = 255 from by decide, show ((2 ^ 8 : Nat) : Int) = 256 from by decide] at hzm
              have hza : bits BinOp.and .i64 (s : Int) 255 = (s : Int) := by rw [hzm]; omega
              have htb : tbits fixL fixD ⟨0, y2, (s : Int)⟩ = cbits fixL s := by unfold tbits; rw [if_pos rfl, Int.toNat_natCast]
              rw [htb] at hX2
              have hp := fun w1 (h : Own w w1 [Wtr g X, slc 3 1 (.slice (some ⟨ba, oa, none⟩) 288 ca) 288 (nums fixL), slc 3 1 (.slice (some ⟨bc, oc, none⟩) 288 cc) 288 (nums (codesF fixL)), slc 44 3 (.slice (some ⟨tb, ot, none⟩) N tc) N (rows tcell T)]) => fixCode_any hsl h (by omega)
              have HQ := Lib.hid hp
              have HF2 := Lib.hid (fun w1 h => HF.out w1 X s hsl h)
              have HT2 := Lib.hid (fun w1 h => HT.out w1 X h)
              generalize fixL.getD s 0 = fl at *
              generalize codeF fixL s = fc at *
              clear hp hso hok htb hzm
              obtain ⟨c0, c1, c2⟩ := HT2.out _ H
              have hs288 : (s : Int) < 288 := by omega
              go_upto_region 29 with (fail)
              refine wp_region_calm (fun w1 => Own w w1 [Wtr g X, slc 3 1 (.slice (some ⟨ba, oa, none⟩) 288 ca) 288 (nums fixL), slc 3 1 (.slice (some ⟨bc, oc, none⟩) 288 cc) 288 (nums (codesF fixL)), slc 44 3 (.slice (some ⟨tb, ot, none⟩) N tc) N (rows tcell T)]) 18 (by kernel_rfl) (by kernel_rfl) H.drew ?_
              simp only [List.take_succ_cons, List.take_zero, List.drop_succ_cons, List.drop_zero]
              repeat
                first
                | (refine calm_value (v := ?_) (by decide) rfl (fun σ w1 hS => ?_) ?_
                   rotate_left
                   · obtain ⟨c0, c1, c2⟩ := HT2.out _ hS; obtain ⟨d0, d1⟩ := HF2.out _ hS
                     first | (go_simp; rfl) | rfl
                   simp only [Act.put, List.setIfInBounds_toArray, List.set_cons_zero, List.set_cons_succ])
                | (refine calm_skip (by decide) rfl ?_
                   simp only [Act.put, List.setIfInBounds_toArray, List.set_cons_zero, List.set_cons_succ])
              refine calm_nil ?_
              intro wd HD
              clear H c0 c1 c2
              go_wp2_with fail
              refine (HQ.out _ HD).mono ?_
              rintro e w8 ⟨_, rfl, H⟩
              rw [← hX2.out] at H
              go_wp2_with fail
              go_roundw
              case rel => exact ⟨k + 1, by go_num, by omega, H⟩
              case measure => simp [intOf]; omega
            · have hxb : (x == 0) = false := by simpa using hx
              have hb2 : 3 ≤ x ∧ x ≤ 258 ∧ 1 ≤ y2 ∧ y2 ≤ 32768 := by rcases hok with h | h <;> simp only at h <;> omega
              obtain ⟨p, rfl⟩ : ∃ p : Nat, x = p := ⟨x.toNat, by omega⟩
              obtain ⟨q, rfl⟩ : ∃ q : Nat, y2 = q := ⟨y2.toNat, by omega⟩
              have hlb2 := lenSym_bd (n := p) (by omega)
              have hdb := distSym_bd (n := q) (by omega)
              have hln := length_any p (by omega) (by omega)
              have hdn := dist_any q (by omega) (by omega)
              have htb : tbits fixL fixD ⟨(p : Int), (q : Int), z⟩ = cbits fixL (lenSym p).1 ++ (bitsOf (lenSym p).2.2 (lenSym p).2.1 ++ (cbits fixD (distSym q).1 ++ bitsOf (distSym q).2.2 (distSym q).2.1)) := by unfold tbits; rw [if_neg hx]; rfl
              rw [htb] at hX2
              obtain ⟨l1, l2, l3, hl1⟩ : ∃ l1 l2 l3, Hid (lenSym p = (l1, l2, l3)) := ⟨_, _, _, rfl⟩
              obtain ⟨d1, d2, d3, hd1⟩ : ∃ d1 d2 d3, Hid (distSym q = (d1, d2, d3)) := ⟨_, _, _, rfl⟩
              rw [hl1.out] at hlb2 hln hX2
              rw [hd1.out] at hdb hdn hX2
              simp only at hlb2 hln hX2 hdb hdn
              obtain ⟨hl0, hl00, hl2, hl3⟩ := hlb2
              obtain ⟨hd0, hd2, hd3⟩ := hdb
              have hl3b : l3 < 32 := Nat.lt_of_lt_of_le hl3 (Nat.pow_le_pow_right (n := 2) (by omega) hl2)
              have hd3b : d3 < 8192 := Nat.lt_of_lt_of_le hd3 (Nat.pow_le_pow_right (n := 2) (by omega) hd2)
              clear hl3 hd3 htb hl1 hd1 hso hok
              have bd1 := cbits_le fixL_bd l1
              have bd2 := cbits_le fixD_bd d1
              have k1 := fun w1 (h : Own w w1 [Wtr g X, slc 3 1 (.slice (some ⟨ba, oa, none⟩) 288 ca) 288 (nums fixL), slc 3 1 (.slice (some ⟨bc, oc, none⟩) 288 cc) 288 (nums (codesF fixL)), slc 44 3 (.slice (some ⟨tb, ot, none⟩) N tc) N (rows tcell T)]) => fixCode_any (s := l1) (by omega) h (by omega)
              have k2 := fun w1 (h : Own w w1 [Wtr g (X ++ cbits fixL l1), slc 3 1 (.slice (some ⟨ba, oa, none⟩) 288 ca) 288 (nums fixL), slc 3 1 (.slice (some ⟨bc, oc, none⟩) 288 cc) 288 (nums (codesF fixL)), slc 44 3 (.slice (some ⟨tb, ot, none⟩) N tc) N (rows tcell T)]) => put_any (l3 : Int) (l2 : Int) (by omega) (by omega) h (by rw [List.length_append]; omega)
              rw [cut_eq (by omega) (by omega), Int.toNat_natCast] at k2
              have k3 := fun w1 (h : Own w w1 [Wtr g (X ++ cbits fixL l1 ++ bitsOf l3 l2), slc 3 1 (.slice (some ⟨ba, oa, none⟩) 288 ca) 288 (nums fixL), slc 3 1 (.slice (some ⟨bc, oc, none⟩) 288 cc) 288 (nums (codesF fixL)), slc 44 3 (.slice (some ⟨tb, ot, none⟩) N tc) N (rows tcell T)]) => fixDist_any (y := d1) (by omega) h (by rw [List.length_append, List.length_append, bitsOf_length]; omega)
              have k4 := fun w1 (h : Own w w1 [Wtr g (X ++ cbits fixL l1 ++ bitsOf l3 l2 ++ cbits fixD d1), slc 3 1 (.slice (some ⟨ba, oa, none⟩) 288 ca) 288 (nums fixL), slc 3 1 (.slice (some ⟨bc, oc, none⟩) 288 cc) 288 (nums (codesF fixL)), slc 44 3 (.slice (some ⟨tb, ot, none⟩) N tc) N (rows tcell T)]) => put_any (d3 : Int) (d2 : Int) (by omega) (by omega) h (by rw [List.length_append, List.length_append, List.length_append, bitsOf_length]; omega)
              rw [cut_eq (by omega) (by omega), Int.toNat_natCast] at k4
              have KK1 := Lib.hid k1
              have KK2 := Lib.hid k2
              have KK3 := Lib.hid k3
              have KK4 := Lib.hid k4
              have LN := Lib.hid hln
              have DN := Lib.hid hdn
              have HF2 := Lib.hid (fun w1 h => HF.out w1 X l1 (by omega) h)
              have HT2 := Lib.hid (fun w1 h => HT.out w1 X h)
              generalize fixL.getD l1 0 = fl at *
              generalize codeF fixL l1 = fc at *
              clear k1 k2 k3 k4 hln hdn bd1 bd2
              have hl0I : (257 : Int) ≤ (l1 : Int) := by omega
              have hl00I : (l1 : Int) ≤ 285 := by omega
              have hl288 : (l1 : Int) < 288 := by omega
              have hl288n : l1 < 288 := by omega
              obtain ⟨c0, c1, c2⟩ := HT2.out _ H
              go_wp2_with fail
              refine (LN.out _).mono ?_
              rintro e w8 ⟨_, rfl, rfl, J⟩
              replace H := H.join J
              clear J c0 c1 c2
              obtain ⟨c0, c1, c2⟩ := HT2.out _ H
              go_wp2_with fail
              refine (DN.out _).mono ?_
              rintro e w9 ⟨_, rfl, rfl, J⟩
              replace H := H.join J
              clear J c0 c1 c2
              go_upto_region 34 with (fail)
              refine wp_region_calm (fun w1 => Own w w1 [Wtr g X, slc 3 1 (.slice (some ⟨ba, oa, none⟩) 288 ca) 288 (nums fixL), slc 3 1 (.slice (some ⟨bc, oc, none⟩) 288 cc) 288 (nums (codesF fixL)), slc 44 3 (.slice (some ⟨tb, ot, none⟩) N tc) N (rows tcell T)]) 8 (by kernel_rfl) (by kernel_rfl) H.drew ?_
              simp only [List.take_succ_cons, List.take_zero, List.drop_succ_cons, List.drop_zero]
              repeat
                first
                | (refine calm_value (v := ?_) (by decide) rfl (fun σ w1 hS => ?_) ?_
                   rotate_left
                   · obtain ⟨d0, d1⟩ := HF2.out _ hS
                     first | (go_simp; rfl) | rfl
                   simp only [Act.put, List.setIfInBounds_toArray, List.set_cons_zero, List.set_cons_succ])
                | (refine calm_skip (by decide) rfl ?_
                   simp only [Act.put, List.setIfInBounds_toArray, List.set_cons_zero, List.set_cons_succ])
              refine calm_nil ?_
              intro wd HD
              clear H
              go_wp2_with fail
              refine (KK1.out _ HD).mono ?_
              rintro e w10 ⟨_, rfl, H10⟩
              clear HD
              go_wp2_with fail
              refine (KK2.out _ H10).mono ?_
              rintro e w11 ⟨_, rfl, H11⟩
              clear H10
              go_wp2_with fail
              refine (KK3.out _ H11).mono ?_
              rintro e w12 ⟨_, rfl, H12⟩
              clear H11
              go_wp2_with fail
              refine (KK4.out _ H12).mono ?_
              rintro e w13 ⟨_, rfl, H⟩
              clear H12
              simp only [List.append_assoc] at H hX2
              rw [← hX2.out] at H
              go_wp2_with fail
              go_roundw
              case rel => exact ⟨k + 1, by go_num, by omega, H⟩
              case measure => simp [intOf]; omega
          · have hI : ¬ (k : Int) < (N : Int) := by omega
            have hlall : T.take k = T := List.take_of_length_le (by rw [hN.out]; omega)
            rw [hlall] at hX
            have hfin2 : Hid (X ++ cbits fixL 256 = B2) := Lib.hid (by rw [← hX.out, ← hB2.out]; unfold bodyB; rw [List.append_assoc])
            have hp := fun w1 (h : Own w w1 [Wtr g X, slc 3 1 (.slice (some ⟨ba, oa, none⟩) 288 ca) 288 (nums fixL), slc 3 1 (.slice (some ⟨bc, oc, none⟩) 288 cc) 288 (nums (codesF fixL)), slc 44 3 (.slice ta N tc) N (rows tcell T)]) => fixCode_any (s := 256) (by omega) h (by omega)
            have HQ := Lib.hid hp
            have HF2 := Lib.hid (fun w1 h => HF.out w1 X 256 (by omega) h)
            generalize fixL.getD 256 0 = fl at *
            generalize codeF fixL 256 = fc at *
            clear hp hlk
            go_upto_region 38 with (fail)
            refine wp_region_calm (fun w1 => Own w w1 [Wtr g X, slc 3 1 (.slice (some ⟨ba, oa, none⟩) 288 ca) 288 (nums fixL), slc 3 1 (.slice (some ⟨bc, oc, none⟩) 288 cc) 288 (nums (codesF fixL)), slc 44 3 (.slice ta N tc) N (rows tcell T)]) 6 (by kernel_rfl) (by kernel_rfl) H.drew ?_
            simp only [List.take_succ_cons, List.take_zero, List.drop_succ_cons, List.drop_zero]
            repeat
              first
              | (refine calm_value (v := ?_) (by decide) rfl (fun σ w1 hS => ?_) ?_
                 rotate_left
                 · obtain ⟨d0, d1⟩ := HF2.out _ hS
                   first | (go_simp; rfl) | rfl
                 simp only [Act.put, List.setIfInBounds_toArray, List.set_cons_zero, List.set_cons_succ])
              | (refine calm_skip (by decide) rfl ?_
                 simp only [Act.put, List.setIfInBounds_toArray, List.set_cons_zero, List.set_cons_succ])
            refine calm_nil ?_
            intro wd HD
            clear H
            go_wp2_with fail
            refine (HQ.out _ HD).mono ?_
            rintro e w8 ⟨_, rfl, H⟩
            rw [hfin2.out] at H
            go_wp2_with fail
            go_roundw
            case rel => exact ⟨i + 1, S ++ t, B2, lb, rfl, by go_num, by omega, hS2.out, hB2l.out, hfin, HP2, (H.front 3 rfl).drop.front 2 rfl |>.drop.front 1 rfl |>.drop⟩
            case measure => simp [intOf]; omega
    · obtain rfl : i = n := by omega
      have hcI : ¬ (i : Int) < (i : Int) := by omega
      by_cases h0 : i = 0
      · have hb : ((i : Int) == 0) = true := by simp [h0]
        clear h0
        go_wp2_with fail
        refine (KA.out _).mono ?_
        rintro e w7 ⟨_, rfl, rfl, J⟩
        replace H := H.join J
        clear J
        go_wp2
        go_ret
        exact ⟨_, rfl, rfl, H.bare⟩
      · have hb : ((i : Int) == 0) = false := by simp [h0]
        obtain rfl : last = true := by rw [hla.out]; exact decide_eq_true (by omega)
        have hpk := txt_packed (by omega) HP.out
        obtain ⟨p, hp⟩ : ∃ p, Hid (textOf Bs = p) := ⟨_, rfl⟩
        have hps : p.size ≤ 1000000 := by rw [← hp.out, textOf_size]; unfold nbytes; omega
        rw [hp.out] at hpk
        obtain ⟨m, hm⟩ : ∃ m, Hid (S.size = m) := ⟨_, rfl⟩
        rw [hm.out] at hS
        have KN := fun w => inflate_any w p m (by omega) hps
        replace KN := Lib.hid KN
        obtain ⟨np, hnp⟩ : ∃ np, Hid (p.size = np) := ⟨_, rfl⟩
        have hbk : ∀ (t1 : ByteArray) (u1 e1 : Int), InfRes (textBits p) (max (m : Int) 0) t1 u1 e1 → t1 = S ∧ u1 = np ∧ e1 = 0 := fun t1 u1 e1 h => by
          rw [Int.max_eq_left (by omega), ← hm.out] at h
          rw [← hnp.out]
          exact packed2_back hpk h
        replace hbk := Lib.hid hbk
        have hnp1 : p.size = np := hnp.out
        have hm1 : S.size = m := hm.out
        clear hpk hnp hm HP h0 hla
        go_wp2_with fail
        refine (bytes_any H).mono ?_
        rintro e w5 ⟨rfl, rfl⟩
        rw [hp.out]
        go_wp2_with fail
        refine (KN.out _).mono ?_
        rintro e w6 ⟨_, rfl, t1, u1, e1, rfl, hr, J⟩
        obtain ⟨rfl, rfl, rfl⟩ := hbk.out _ _ _ hr
        replace H := H.join J
        clear J hr hbk KN
        go_wp2_with fail
        refine (KA.out _).mono ?_
        rintro e w7 ⟨_, rfl, rfl, J⟩
        replace H := H.join J
        clear J
        go_wp2
        go_ret
        exact ⟨_, rfl, rfl, H.bare⟩
end Go.Proofs.Ytnebacnmbigaaaa
