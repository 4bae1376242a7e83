/-
  Texts of this claim, one behind the other: split; split; lz; lz; split; lz; Bits; The document's Reader; inflate, the document's; huff; huff; huff; huff; As XCalm; A call that changes what there is, in a region that draws its order.
-/
import Derived.Test.YtpbodonmiepilaaSb7
import Derived.Deep.LoopGhost
import Derived.WalkLawsBesides
import Derived.WalkSpells
import Derived.Deep.DeepCutAuto
import Derived.Deep.CutBlock
import Derived.Test.YtpbodonmiepilaaRows
set_option linter.unusedVariables false
/- split: the walk of Plan, continued. -/
namespace Go.Proofs.Ytpbodonmiepilaa
open Go.RowKit

theorem nats_get {C : List Nat} {i : Nat} : (C.map Int.ofNat).getD i 0 = ((C.getD i 0 : Nat) : Int) := by
  simp only [List.getD, List.getElem?_map]
  cases C[i]? <;> rfl
set_option maxRecDepth 100000 in
set_option maxHeartbeats 6400000 in
theorem plan_any {w : World} {tv : Value} {T : List Tok} (ht : Rd w 3 tv T.length (rows tcell T)) (hok : ∀ t ∈ T, TokOk t) (hT : T.length ≤ 3000) :
    Calls Try.prog 11 #[tv] w (Ret fun r w' => ∃ C, CutsIs T.length C ∧ ∃ a k : Value, r = .tuple #[a, k] ∧ Own w w' [slc 3 1 a (planI T C).length (nums (atT T C)), slc 3 1 k (planI T C).length (nums (ksT T C))]) := by
  obtain ⟨ta, tc, rfl, htc1, htc2⟩ := ht.shape
  have KW := Lib.hid (fun w1 (ps : List Piece) bl sf j fr tt h1 h2 h3 (H : Own w w1 (blk bl (.cells #[.slice ta T.length tc] 26) :: ps)) => way_any sf j fr tt ht hok hT h1 h2 h3 H)
  have KB := Lib.hid (fun C W tt j => bestT_bd hok hT C W tt j)
  have KC := Lib.hid (fun (w1 w2 : World) (v : Value) h => cutsR_is (N := T.length) (w := w1) (w' := w2) (v := v) (by omega) h)
  have KE := Lib.hid (fun a b => cst_bd (a := a) (b := b) hok hT)
  obtain ⟨N, hN⟩ : ∃ N, Hid (T.length = N) := ⟨_, rfl⟩
  rw [hN.out] at KW KC hT htc1 ⊢
  clear ht hok
  have H0 := (Own.start w).alloc (.cells #[.slice ta N tc] 26)
  go_enter Try.func11, Try.ntmps11
  go_upto_region 1 with (fail)
  generalize w.alloc _ = w1 at *
  generalize w.heap.size = bl at *
  have c0 := H0.cells
  go_wp2_with fail
  refine (cuts_any (N : Int) (by omega) _).mono ?_
  rintro e w2 ⟨cv, rfl, J⟩
  obtain ⟨C, hC, J⟩ := KC.out _ _ _ J
  have H := H0.join J
  clear H0 J c0 KC
  obtain ⟨hn0, hn12, hlast, hrise, hle⟩ := hC.facts
  obtain ⟨n, hn⟩ : ∃ n, Hid (C.length = n) := ⟨_, rfl⟩
  rw [hn.out] at hn0 hn12 hrise H
  replace hrise := Lib.hid hrise
  replace hle := Lib.hid hle
  clear hlast
  replace H : Own w w2 [slc 3 1 cv n (nums (C.map Int.ofNat)), blk bl (.cells #[.slice ta N tc] 26)] := H
  have hcl : (nums (C.map Int.ofNat)).length = n := by simp [nums, hn.out]
  obtain ⟨cg, cc, rfl, hcc1, hcc2, -, -, -, -⟩ := H.at (by rw [hcl]; exact hn0)
  obtain ⟨Cz, hCz⟩ : ∃ Cz, Hid (nums (C.map Int.ofNat) = Cz) := ⟨_, rfl⟩
  rw [hCz.out] at H hcl
  have HCELL : Hid (∀ w' (qs : List Piece), Own w w' (slc 3 1 (.slice (some ⟨cg, 0, none⟩) n cc) n Cz :: qs) → ∀ i, i < n → w'.cell? ⟨cg, i, none⟩ = some (.int .i64 (C.getD i 0 : Nat))) := Lib.hid fun w' qs h i hi => by
    rw [← hCz.out] at h
    obtain ⟨_, _, e1, h1⟩ := rd_at h.rd (Own.start w') hi
    cases e1
    rw [Nat.zero_add, nats_get] at h1
    exact h1
  have H1 := H.nil 49 3
  clear H
  go_wp2_with fail
  go_loopw [5, 22] (fun v5 v22 wx => ∃ i : Nat, v22 = .int .i64 i ∧ i ≤ n ∧ Own w wx [slc 49 3 v5 i (rows bcell (waysT T C i)), slc 3 1 (.slice (some ⟨cg, 0, none⟩) n cc) n Cz, blk bl (.cells #[.slice ta N tc] 26)]) (fun _ v22 _ => n - (intOf v22).toNat)
  case atStart => exact ⟨0, rfl, by omega, H1⟩
  case round =>
    clear H1
    obtain ⟨i, rfl, hi, H⟩ := hrel
    obtain ⟨wa, wc, rfl, hwc1, hwc2⟩ := H.rd.shape
    by_cases hin : i < n
    · have hinI : (i : Int) < (n : Int) := by omega
      have c1 := HCELL.out _ _ H.swap i hin
      have hleI := hle.out i
      have hriI := Lib.hid (fun j (h : j < i) => hrise.out j i h (by omega))
      generalize hW : waysT T C i = W at *
      obtain ⟨tt, htt⟩ : ∃ tt, Hid (C.getD i 0 = tt) := ⟨_, rfl⟩
      rw [htt.out] at c1 hleI hriI
      have hWl : W.length = i := by rw [← hW]; exact waysT_length T C i
      have hWg : Hid (∀ j, j < i → (W.getD j (0, 0, 0)).1 ≤ 159000) := Lib.hid fun j h => by rw [← hW, waysT_get T C i j h]; exact KB.out C _ _ j
      have hnext : Hid (waysT T C (i + 1) = W ++ [bestT T C W tt i]) := Lib.hid (by rw [waysT, hW, htt.out])
      replace hWl := Lib.hid hWl
      have kw0 := fun w1 qs H => KW.out w1 qs bl 0 (-1) 0 tt (by omega) (by omega) hleI H
      have hb0 : Hid (∃ b k, bestT T C W tt 0 = (b, -1, k) ∧ b = cstF (segT T 0 tt) ∧ k = kdF (segT T 0 tt) ∧ b ≤ 159000) := Lib.hid ⟨_, _, by simp [bestT, wayT], rfl, rfl, KE.out 0 tt⟩
      obtain ⟨b0, k0, e0, eb, ek, hb0l⟩ := hb0.out
      rw [← eb, ← ek] at kw0
      replace kw0 := Lib.hid kw0
      replace e0 := Lib.hid e0
      clear hb0 eb ek hW
      go_upto_region 7 with (fail)
      clear c1
      go_wp2_with fail
      refine (kw0.out _ _ (H.front 2 rfl)).mono ?_
      rintro e w3 ⟨_, rfl, rfl, H3⟩
      clear H kw0
      have hz0 : ((0 : Nat) : Int) + (b0 : Int) = (b0 : Int) := by omega
      rw [hz0]
      have H : Own w (w3.alloc (.cells #[.int .i64 (b0 : Int), .int .i64 (-1), .int .i64 k0] 49)) [blk w3.heap.size (.cells #[.int .i64 (b0 : Int), .int .i64 (-1), .int .i64 k0] 49), blk bl (.cells #[.slice ta N tc] 26), slc 49 3 (.slice wa i wc) i (rows bcell W), slc 3 1 (.slice (some ⟨cg, 0, none⟩) n cc) n Cz] := H3.alloc _
      clear H3
      go_wp2_with fail
      generalize hw4 : w3.alloc _ = w4 at *
      generalize w3.heap.size = gw at *
      clear hw4
      go_loopw [34] (fun v34 wx => ∃ (j : Nat) (x : Way), v34 = .int .i64 j ∧ j ≤ i ∧ x.1 ≤ 159000 ∧ Hid (bestT T C W tt j = x) ∧ Own w wx [blk gw (.cells #[.int .i64 (x.1 : Int), .int .i64 x.2.1, .int .i64 x.2.2] 49), blk bl (.cells #[.slice ta N tc] 26), slc 49 3 (.slice wa i wc) i (rows bcell W), slc 3 1 (.slice (some ⟨cg, 0, none⟩) n cc) n Cz]) (fun v34 _ => i - (intOf v34).toNat)
      case atStart => exact ⟨0, (b0, -1, k0), rfl, by omega, hb0l, e0, H⟩
      case round =>
        clear H
        obtain ⟨j, ⟨xb, xf, xk⟩, rfl, hj, hxl, hx, H⟩ := hrel
        by_cases hji : j < i
        · have hjiI : (j : Int) < (i : Int) := by omega
          have c1 := HCELL.out _ _ (H.front 3 rfl) j (by omega)
          have hr2 := hriI.out j hji
          obtain ⟨fr, hfr⟩ : ∃ fr, Hid (C.getD j 0 = fr) := ⟨_, rfl⟩
          rw [hfr.out] at c1 hr2
          obtain ⟨wg, wc', e1, -, -, -, -, -, -⟩ := (H.front 2 rfl).at (by rw [rows_length bcell bcell_length, hWl.out]; omega)
          cases e1
          have hWj : W[j]? = some (W.getD j (0, 0, 0)) := by rw [List.getD, List.getElem?_eq_getElem (by rw [hWl.out]; exact hji)]; rfl
          obtain ⟨c2, c3, c4⟩ := way_cells (H.front 2 rfl).rd hWj
          have hsfl := hWg.out j hji
          obtain ⟨sf, hsf⟩ : ∃ sf, Hid ((W.getD j (0, 0, 0)).1 = sf) := ⟨_, rfl⟩
          rw [hsf.out] at c2 hsfl
          rw [Nat.zero_add] at c2
          clear c3 c4 hWj
          have kw := fun w1 qs H => KW.out w1 qs bl sf j fr tt (by omega) (by omega) hleI H
          obtain ⟨y, hy⟩ : ∃ y, Hid (wayT T sf j fr tt = y) := ⟨_, rfl⟩
          have hy1 : y.1 = sf + cstF (segT T fr tt) := by rw [← hy.out]; rfl
          have hy2 : y.2.1 = j := by rw [← hy.out]; rfl
          have hy3 : y.2.2 = kdF (segT T fr tt) := by rw [← hy.out]; rfl
          have hyl : y.1 ≤ 318000 := by have := KE.out fr tt; omega
          obtain ⟨yb, yf, yk⟩ := y
          simp only at hy1 hy2 hy3 hyl
          have hy1' : (sf : Int) + (cstF (segT T fr tt) : Int) = (yb : Int) := by omega
          rw [hy1', ← hy3] at kw
          replace kw := Lib.hid kw
          clear hy1' hy1 hy3
          subst hy2
          have hstep : Hid (bestT T C W tt (j + 1) = if yb < xb then (yb, (j : Int), yk) else (xb, xf, xk)) := Lib.hid (by
            rw [bestT, hsf.out, hfr.out, hy.out, hx.out])
          clear hx hy
          go_upto_region 11 with (fail)
          clear c1
          have H2 := H.front 1 rfl
          clear H
          go_wp2_with fail
          refine (kw.out _ _ H2).mono ?_
          rintro e w6 ⟨_, rfl, rfl, H⟩
          clear H2 kw c2
          have H2 : Own w (w6.alloc (.cells #[.int .i64 (yb : Int), .int .i64 (j : Int), .int .i64 yk] 49)) [blk w6.heap.size (.cells #[.int .i64 (yb : Int), .int .i64 (j : Int), .int .i64 yk] 49), blk gw (.cells #[.int .i64 (xb : Int), .int .i64 xf, .int .i64 xk] 49), blk bl (.cells #[.slice ta N tc] 26), slc 49 3 (.slice (some ⟨wg, 0, none⟩) i wc) i (rows bcell W), slc 3 1 (.slice (some ⟨cg, 0, none⟩) n cc) n Cz] := (H.swap).alloc _
          clear H
          go_upto_region 12 with (fail)
          generalize hw7 : w6.alloc _ = w7 at *
          generalize w6.heap.size = gx at *
          clear hw7
          have c2 := H2.cells
          have c3 := H2.swap.cells
          by_cases hlt : (yb : Int) < (xb : Int)
          · have hlN : yb < xb := by omega
            rw [if_pos hlN] at hstep
            replace hstep := Lib.hid hstep.out
            clear hlN
            have HP := H2.swap
            clear H2
            go_wp2_with (refine wpList_store_agg (vs := [.int .i64 (yb : Int), .int .i64 (j : Int), .int .i64 yk]) rfl _ _ rfl rfl HP rfl (by kernel_rfl) (by simp) (by simp [Value.oneCell']) rfl ?_; clear HP c2 c3; intro w8 H)
            go_roundw
            case rel => exact ⟨j + 1, (yb, (j : Int), yk), by go_num, by omega, by simp only; omega, hstep, ((H.front 1 rfl).drop)⟩
            case measure => simp [intOf]; omega
          · have hlN : ¬ yb < xb := by omega
            rw [if_neg hlN] at hstep
            replace hstep := Lib.hid hstep.out
            clear hlN
            go_wp2_with fail
            go_roundw
            case rel => exact ⟨j + 1, (xb, xf, xk), by go_num, by omega, hxl, hstep, H2.drop⟩
            case measure => simp [intOf]; omega
        · obtain rfl : j = i := by omega
          have hjiI : ¬ (j : Int) < (j : Int) := by omega
          have hx2 : Hid (waysT T C (j + 1) = W ++ [(xb, xf, xk)]) := Lib.hid (by rw [hnext.out, hx.out])
          clear hx hnext
          have H2 : Own w _ [slc 49 3 (.slice wa j wc) j (rows bcell W), slc 3 1 (.slice (some ⟨cg, 0, none⟩) n cc) n Cz, blk bl (.cells #[.slice ta N tc] 26)] := ((((H.front 3 rfl).front 3 rfl).front 2 rfl).drop)
          have c0 := H.cells
          go_wp2_with (at_builtin; refine wpList_append_one rfl _ _ rfl Try.underlying47 bestInfo rfl (by decide) rfl H2 (news := [.int .i64 (xb : Int), .int .i64 xf, .int .i64 xk]) rfl rfl rfl (by simp [Value.oneCell']) (by omega) (by omega) ?_; clear H H2 c0; intro v' w9 H; obtain ⟨a', c', rfl, h1', h2'⟩ := H.rd.shape)
          go_roundw
          case rel => exact ⟨j + 1, by go_num, by omega, by rw [hx2.out, rows_append, rows_one]; exact H⟩
          case measure => simp [intOf]; omega
    · obtain rfl : i = n := by omega
      have hinI : ¬ (i : Int) < (i : Int) := by omega
      obtain ⟨W, hW⟩ : ∃ W, Hid (waysT T C i = W) := ⟨_, rfl⟩
      rw [hW.out] at H
      have hWl : Hid (W.length = i) := Lib.hid (by rw [← hW.out]; exact waysT_length T C i)
      obtain ⟨wg, wc', e1, -, -, -, -, -, -⟩ := H.at (by rw [rows_length bcell bcell_length, hWl.out]; omega)
      cases e1
      have WCELL : Hid (∀ w' (qs : List Piece), Own w w' (slc 49 3 (.slice (some ⟨wg, 0, none⟩) i wc) i (rows bcell W) :: qs) → ∀ j, j < i → w'.cell? ⟨wg, j * 3 + 1, none⟩ = some (.int .i64 (W.getD j (0, 0, 0)).2.1) ∧ w'.cell? ⟨wg, j * 3 + 2, none⟩ = some (.int .i64 (W.getD j (0, 0, 0)).2.2)) := Lib.hid fun w' qs h j hj => by
        have hWj : W[j]? = some (W.getD j (0, 0, 0)) := by rw [List.getD, List.getElem?_eq_getElem (by rw [hWl.out]; exact hj)]; rfl
        obtain ⟨-, c3, c4⟩ := way_cells h.rd hWj
        rw [Nat.zero_add] at c3 c4
        exact ⟨c3, c4⟩
      have hWF : Hid (∀ j, j < i → -1 ≤ (W.getD j (0, 0, 0)).2.1 ∧ (W.getD j (0, 0, 0)).2.1 < j) := Lib.hid fun j hj => by
        rw [← hW.out, waysT_get T C i j hj]
        have := bestT_from T C (waysT T C j) (C.getD j 0) j
        exact ⟨this.1, this.2.1⟩
      obtain ⟨PL, hPL⟩ : ∃ PL, Hid (planI T C = PL) := ⟨_, rfl⟩
      have hst : Hid (([] : List Nat) ++ backT W i ((i : Int) - 1) = PL) := Lib.hid (by rw [← hPL.out, planI, hn.out, hW.out]; rfl)
      have hAT : Hid (atT T C = (PL.map fun i => ((C.getD i 0 : Nat) : Int)).reverse) := Lib.hid (by rw [atT, hPL.out])
      have hKS : Hid (ksT T C = (PL.map fun i => (W.getD i (0, 0, 0)).2.2).reverse) := Lib.hid (by rw [ksT, hPL.out, hn.out, hW.out])
      have H1 := (H.nil 3 1).nil 3 1
      clear H hW KW KB KE hle
      have hw1 : IntKind.i64.wrap ((i : Int) - 1) = (i : Int) - 1 := IntWalk.i64_in _ ⟨by omega, by omega⟩
      go_wp2_with fail
      go_loopw [13, 14, 15] (fun v13 v14 v15 wx => ∃ (x : Int) (L : List Nat) (f : Nat), v15 = .int .i64 x ∧ -1 ≤ x ∧ x < i ∧ x < f ∧ (L.length : Int) + x + 1 ≤ i ∧ Hid (L ++ backT W f x = PL) ∧ Own w wx [slc 3 1 v13 L.length (nums (L.map fun i => ((C.getD i 0 : Nat) : Int))), slc 3 1 v14 L.length (nums (L.map fun i => (W.getD i (0, 0, 0)).2.2)), slc 49 3 (.slice (some ⟨wg, 0, none⟩) i wc) i (rows bcell W), slc 3 1 (.slice (some ⟨cg, 0, none⟩) i cc) i Cz, blk bl (.cells #[.slice ta N tc] 26)]) (fun _ _ v15 _ => (intOf v15 + 1).toNat)
      case atStart => exact ⟨(i : Int) - 1, [], i, rfl, by omega, by omega, by omega, by simp, hst, H1⟩
      case round =>
        clear H1 hst hw1
        obtain ⟨x, L, f, rfl, hx1, hx2, hxf, hLx, hst, H⟩ := hrel
        by_cases hx0 : 0 ≤ x
        · obtain ⟨j, rfl⟩ : ∃ j : Nat, x = j := ⟨x.toNat, by omega⟩
          obtain ⟨f, rfl⟩ : ∃ f', f = f' + 1 := ⟨f - 1, by omega⟩
          have hj : j < i := by omega
          have hst2 := hst.out
          rw [backT_step] at hst2
          obtain ⟨hF1, hF2⟩ := hWF.out j hj
          have CCL := Lib.hid (fun w' qs h => HCELL.out w' qs h j hj)
          have WCL := Lib.hid (fun w' qs h => WCELL.out w' qs h j hj)
          obtain ⟨x, hx⟩ : ∃ x, Hid (((C.getD j 0 : Nat) : Int) = x) := ⟨_, rfl⟩
          obtain ⟨y, hy⟩ : ∃ y, Hid ((W.getD j (0, 0, 0)).2.2 = y) := ⟨_, rfl⟩
          obtain ⟨z, hz⟩ : ∃ z, Hid ((W.getD j (0, 0, 0)).2.1 = z) := ⟨_, rfl⟩
          rw [hz.out] at hst2 hF1 hF2
          rw [hx.out] at CCL
          rw [hy.out, hz.out] at WCL
          have hst3 : Hid ((L ++ [j]) ++ backT W f z = PL) := Lib.hid (by rw [← hst2]; simp)
          have hLL : Hid (L.length + 1 = (L ++ [j]).length) := Lib.hid (by simp)
          have hX : Hid (nums ((L ++ [j]).map fun i => ((C.getD i 0 : Nat) : Int)) = nums ((L.map fun i => ((C.getD i 0 : Nat) : Int)) ++ [x])) := Lib.hid (by rw [← hx.out]; simp)
          have hY : Hid (nums ((L ++ [j]).map fun i => (W.getD i (0, 0, 0)).2.2) = nums (L.map fun i => (W.getD i (0, 0, 0)).2.2) ++ [.int .i64 y]) := Lib.hid (by rw [← hy.out, nums_snoc]; simp)
          clear hst hst2 hx hy hz
          obtain ⟨m, hm⟩ : ∃ m, Hid (L.length = m) := ⟨_, rfl⟩
          rw [hm.out] at H hLx hLL
          have hmn : m ≤ 12 := by omega
          obtain ⟨a1, q1, rfl, -, -⟩ := H.rd.shape
          obtain ⟨a2, q2, rfl, -, -⟩ := (H.front 1 rfl).rd.shape
          have hji : (j : Int) < (i : Int) := by omega
          have hj0 : (0 : Int) ≤ (j : Int) := by omega
          go_upto_region 21 with (fail)
          refine Tre.wp_region_new (TwoS w (.slice a1 m q1) m (L.map fun i => ((C.getD i 0 : Nat) : Int)) x y [slc 3 1 (.slice a2 m q2) m (nums (L.map fun i => (W.getD i (0, 0, 0)).2.2)), slc 49 3 (.slice (some ⟨wg, 0, none⟩) i wc) i (rows bcell W), slc 3 1 (.slice (some ⟨cg, 0, none⟩) i cc) i Cz, blk bl (.cells #[.slice ta N tc] 26)]) 14 [5, 6, 13] eat6 (by kernel_rfl) (by kernel_rfl) (by kernel_rfl) (two_start H.drew) ?_
          simp only [List.take_succ_cons, List.take_zero, List.drop_succ_cons, List.drop_zero]
          repeat
            first
            | (refine Tre.calm_value (v := ?_) (by decide) rfl (fun σ w1 hS => ?_) ?_
               rotate_left
               · have h0 := two_rest hS; have d0 := CCL.out _ _ (h0.front 2 rfl); obtain ⟨d1, d2⟩ := WCL.out _ _ (h0.front 1 rfl)
                 first | (go_simp; rfl) | rfl
               simp only [Act.put, List.setIfInBounds_toArray, List.set_cons_zero, List.set_cons_succ])
            | (refine Tre.calm_skip (by decide) rfl ?_
               simp only [Act.put, List.setIfInBounds_toArray, List.set_cons_zero, List.set_cons_succ])
          refine Tre.calm_newv (by decide) (fun σ w1 hS hn hd => ⟨_, _, ?_, two_row hS hn⟩) ?_
          · rw [show eat6 5 = [] from rfl]
            simp only [putNew, List.foldl_nil]
            go_simp
          refine Tre.calm_appv (k := 5) (d := 76) (v1 := .slice a1 m q1) (t := 22) (ty := 22) (by decide) rfl rfl (.tmp 71) rfl rfl (fun r => rfl) (fun r => rfl) (fun σ w1 hS hn hd => two_app hS hn hd (by omega)) ?_
          repeat
            first
            | (refine Tre.calm_value (v := ?_) (by decide) rfl (fun σ w1 hS => ?_) ?_
               rotate_left
               · have h0 := two_rest hS; have d0 := CCL.out _ _ (h0.front 2 rfl); obtain ⟨d1, d2⟩ := WCL.out _ _ (h0.front 1 rfl)
                 first | (go_simp; rfl) | rfl
               simp only [Act.put, List.setIfInBounds_toArray, List.set_cons_zero, List.set_cons_succ])
            | (refine Tre.calm_skip (by decide) rfl ?_
               simp only [Act.put, List.setIfInBounds_toArray, List.set_cons_zero, List.set_cons_succ])
          refine Tre.calm_newv (by decide) (fun σ w1 hS hn hd => ⟨_, _, ?_, two_rowB hS hn⟩) ?_
          · rw [show eat6 13 = [] from rfl]
            simp only [putNew, List.foldl_nil]
            go_simp
          refine Tre.calm_nil ?_
          intro σ2 wd2 hal HD
          obtain ⟨u6, u13, e6, e13, HE⟩ := two_end HD (hal 6 (by decide)) (hal 13 (by decide))
          simp only [putNew, List.foldl_nil, List.foldl_cons, e6, e13]
          clear H HD hal e6 e13
          have HR := HE.rd
          have HV := HE.drop.swap
          clear HE
          have d1 := (WCL.out _ _ (HV.front 2 rfl)).1
          have hz3 : -1 ≤ z := hF1
          go_wp2_with (at_builtin; refine wpList_append_sep rfl _ _ rfl Try.underlying22 intInfo rfl (by decide) rfl HV (m := 1) (news := [.int .i64 y]) HR (by simp [Value.oneCell']) (by omega) (by omega) ?_; clear HV HR d1; intro v' w9 H; obtain ⟨a', c', rfl, h1', h2'⟩ := H.rd.shape; have d1 := (WCL.out _ _ (H.front 2 rfl)).1; obtain ⟨a5, c5, rfl, -, -⟩ := (H.front 1 rfl).rd.shape)
          rw [← hX.out, ← hY.out, hLL.out] at H
          go_roundw
          case rel => exact ⟨z, L ++ [j], f, rfl, by omega, by omega, by omega, by rw [← hLL.out]; push_cast; omega, hst3, by rw [← hLL.out] at H ⊢; exact H.swap⟩
          case measure => simp [intOf]; omega
        · have hx0' : x < 0 := by omega
          have hst2 := hst.out
          rw [backT_neg W f hx0', List.append_nil] at hst2
          subst hst2
          clear hst
          have hlen : (L.map fun i => ((C.getD i 0 : Nat) : Int)).length = L.length := by simp
          have hlen2 : (L.map fun i => (W.getD i (0, 0, 0)).2.2).length = L.length := by simp
          obtain ⟨a1, q1, rfl, -, -⟩ := H.rd.shape
          obtain ⟨a2, q2, rfl, -, -⟩ := (H.front 1 rfl).rd.shape
          have kr1 := fun w1 qs => reverse_any (w0 := w) (w := w1) (ps := qs) (v := .slice a1 L.length q1) hlen (by omega)
          have kr2 := fun w1 qs => reverse_any (w0 := w) (w := w1) (ps := qs) (v := .slice a2 L.length q2) hlen2 (by omega)
          rw [← hAT.out] at kr1
          rw [← hKS.out] at kr2
          replace kr1 := Lib.hid kr1
          replace kr2 := Lib.hid kr2
          obtain ⟨m, hm⟩ : ∃ m, Hid (L.length = m) := ⟨_, rfl⟩
          rw [hm.out] at H kr1 kr2 ⊢
          replace HCs := Lib.hid hC
          clear hcl HCELL WCELL hWF hrise hAT hKS hlen hlen2 hx1 hx2 hxf hLx hx0
          generalize nums (L.map fun i => ((C.getD i 0 : Nat) : Int)) = X1 at *
          generalize nums (L.map fun i => (W.getD i (0, 0, 0)).2.2) = X2 at *
          go_wp2_with fail
          refine (kr1.out _ _ H).mono ?_
          rintro e w9 ⟨_, rfl, H9⟩
          clear H kr1
          go_wp2_with fail
          refine (kr2.out _ _ H9.swap).mono ?_
          rintro e w8 ⟨_, rfl, H8⟩
          clear H9 kr2
          go_wp2
          go_ret2
          refine ⟨_, rfl, C, HCs.out, _, _, rfl, ?_⟩
          rw [hPL.out, hm.out]
          exact (((((H8.front 1 rfl).front 4 rfl).front 4 rfl).front 4 rfl).drop.drop.drop)
end Go.Proofs.Ytpbodonmiepilaa
/- split: the plan is the shortest, plainly. No program in sight. -/
namespace Go.Proofs.Ytpbodonmiepilaa

/-- How many bits blocks have. -/
def lonF (T : List Tok) : List (Int × Int) → Nat → Nat
  | [], _ => 0
  | (c, k) :: r, fr => (blockB (segT T fr c.toNat) k false).length + lonF T r c.toNat
def prs (C : List Nat) (l : List (Nat × Int)) : List (Int × Int) := l.map fun p => (((C.getD p.1 0 : Nat) : Int), p.2)
structure Chn (n : Nat) (l : List (Nat × Int)) : Prop where
  rise : l.Pairwise fun a b => a.1 < b.1
  low : ∀ p ∈ l, p.1 < n
  kind : ∀ p ∈ l, p.2 = 1 ∨ p.2 = 2
def wq (T : List Tok) (C : List Nat) (i : Nat) : Way := bestT T C (waysT T C i) (C.getD i 0) i
theorem ways_wq (T : List Tok) (C : List Nat) {n i : Nat} (h : i < n) : (waysT T C n).getD i (0, 0, 0) = wq T C i := waysT_get T C n i h
theorem bestT_le (T : List Tok) (C : List Nat) (W : List Way) (tt : Nat) : ∀ j k, k < j → (bestT T C W tt j).1 ≤ (W.getD k (0, 0, 0)).1 + cstF (segT T (C.getD k 0) tt)
  | 0, k, h => by omega
  | j + 1, k, h => by
    rw [bestT]
    by_cases hk : k = j
    · subst hk
      split
      · exact Nat.le_refl _
      · next hh => simp only [wayT] at hh; omega
    · have := bestT_le T C W tt j k (by omega)
      split <;> omega
theorem bestT_is (T : List Tok) (C : List Nat) (W : List Way) (tt : Nat) : ∀ j, bestT T C W tt j = wayT T 0 (-1) 0 tt ∨ ∃ k, k < j ∧ bestT T C W tt j = wayT T (W.getD k (0, 0, 0)).1 k (C.getD k 0) tt
  | 0 => .inl rfl
  | j + 1 => by
    rw [bestT]
    split
    · exact .inr ⟨j, by omega, rfl⟩
    · rcases bestT_is T C W tt j with h | ⟨k, hk, h⟩
      · exact .inl h
      · exact .inr ⟨k, by omega, h⟩
theorem wq_le0 (T : List Tok) (C : List Nat) (i : Nat) : (wq T C i).1 ≤ cstF (segT T 0 (C.getD i 0)) := bestT_le0 ..
theorem wq_le (T : List Tok) (C : List Nat) {i j : Nat} (h : j < i) : (wq T C i).1 ≤ (wq T C j).1 + cstF (segT T (C.getD j 0) (C.getD i 0)) := by
  have := bestT_le T C (waysT T C i) (C.getD i 0) i j h
  rwa [ways_wq T C h] at this
theorem wq_is (T : List Tok) (C : List Nat) (i : Nat) : wq T C i = wayT T 0 (-1) 0 (C.getD i 0) ∨ ∃ k, k < i ∧ wq T C i = wayT T (wq T C k).1 k (C.getD k 0) (C.getD i 0) := by
  rcases bestT_is T C (waysT T C i) (C.getD i 0) i with h | ⟨k, hk, h⟩
  · exact .inl h
  · refine .inr ⟨k, hk, ?_⟩
    rwa [ways_wq T C hk] at h
theorem wq_kind (T : List Tok) (C : List Nat) (i : Nat) : (wq T C i).2.2 = 1 ∨ (wq T C i).2.2 = 2 := (bestT_from T C (waysT T C i) (C.getD i 0) i).2.2
theorem lonF_snoc (T : List Tok) (c k : Int) : ∀ (a : List (Int × Int)) (fr : Nat) (p : Int × Int), a.getLast? = some p → lonF T (a ++ [(c, k)]) fr = lonF T a fr + (blockB (segT T p.1.toNat c.toNat) k false).length := by
  intro a
  induction a with
  | nil => intro fr p h; cases h
  | cons q r ih =>
    obtain ⟨c1, k1⟩ := q
    intro fr p h
    rw [List.cons_append, lonF, lonF]
    cases r with
    | nil =>
      simp only [List.getLast?_singleton, Option.some.injEq] at h
      subst h
      simp [lonF]
    | cons q2 r2 =>
      rw [List.getLast?_cons_cons] at h
      rw [ih _ _ h]
      omega
/-- No chain is shorter. -/
theorem chn_least {T : List Tok} {C : List Nat} {n : Nat} : ∀ (l : List (Nat × Int)) (acc fr : Nat), Chn n l → ((fr = 0 ∧ acc = 0) ∨ ∃ j, fr = C.getD j 0 ∧ (wq T C j).1 ≤ acc ∧ ∀ p ∈ l, j < p.1) →
    ∀ p, l.getLast? = some p → (wq T C p.1).1 ≤ acc + lonF T (prs C l) fr := by
  intro l
  induction l with
  | nil => intro acc fr _ _ p h; cases h
  | cons q r ih =>
    obtain ⟨i, k⟩ := q
    intro acc fr hc hst p hp
    have hk : k = 1 ∨ k = 2 := hc.kind (i, k) (by simp)
    have hi : (wq T C i).1 ≤ acc + (blockB (segT T fr (C.getD i 0)) k false).length := by
      have h2 := cst_le (segT T fr (C.getD i 0)) hk
      rcases hst with ⟨rfl, rfl⟩ | ⟨j, rfl, hj, hl⟩
      · have := wq_le0 T C i
        omega
      · have := wq_le T C (show j < i from hl (i, k) (by simp))
        omega
    have hp' := List.pairwise_cons.1 hc.rise
    rw [prs, List.map_cons, lonF]
    simp only [Int.toNat_natCast]
    cases r with
    | nil =>
      simp only [List.getLast?_singleton, Option.some.injEq] at hp
      subst hp
      simp only [List.map_nil, lonF]
      omega
    | cons q2 r2 =>
      rw [List.getLast?_cons_cons] at hp
      have := ih (acc + (blockB (segT T fr (C.getD i 0)) k false).length) (C.getD i 0) ⟨hp'.2, fun x hx => hc.low x (List.mem_cons_of_mem _ hx), fun x hx => hc.kind x (List.mem_cons_of_mem _ hx)⟩ (.inr ⟨i, rfl, hi, hp'.1⟩) p hp
      rw [prs] at this
      omega
theorem chn_wf {C : List Nat} {n N : Nat} (hr : ∀ i j, i < j → j < n → C.getD i 0 < C.getD j 0) (hN : ∀ i, C.getD i 0 ≤ N) : ∀ (l : List (Nat × Int)) (fr : Int), Chn n l → (∀ p ∈ l, fr ≤ (C.getD p.1 0 : Nat)) → wfalls N (prs C l) fr = false := by
  intro l
  induction l with
  | nil => intro fr _ _; rfl
  | cons q r ih =>
    obtain ⟨i, k⟩ := q
    intro fr hc hf
    have hp' := List.pairwise_cons.1 hc.rise
    have h1 := hf (i, k) (by simp)
    have h2 := hN i
    have h3 := hc.kind (i, k) (by simp)
    simp only at h1 h3
    rw [prs, List.map_cons, wfalls]
    have hb : wbad N fr ((C.getD i 0 : Nat) : Int) k = false := by
      unfold wbad
      simp only [Bool.or_eq_false_iff, decide_eq_false_iff_not]
      omega
    rw [hb, Bool.false_or]
    exact ih _ ⟨hp'.2, fun x hx => hc.low x (List.mem_cons_of_mem _ hx), fun x hx => hc.kind x (List.mem_cons_of_mem _ hx)⟩ fun x hx => by
      have := hr i x.1 (hp'.1 x hx) (hc.low x (List.mem_cons_of_mem _ hx))
      simp only
      omega
theorem backT_length (W : List Way) : ∀ (f : Nat) (i : Int), (backT W f i).length ≤ f
  | 0, _ => by simp [backT]
  | f + 1, i => by
    rw [backT]
    split
    · simp
    · have := backT_length W f (W.getD i.toNat (0, 0, 0)).2.1
      simp only [List.length_cons]
      omega
theorem chn_back {T : List Tok} {C : List Nat} {n : Nat} : ∀ (i f : Nat), i < f → i < n → ∃ l : List (Nat × Int), (backT (waysT T C n) f (i : Int)).reverse.map (fun i => (i, (wq T C i).2.2)) = l ∧ Chn n l ∧ l.getLast? = some (i, (wq T C i).2.2) ∧ (∀ p ∈ l, p.1 ≤ i) ∧ lonF T (prs C l) 0 = (wq T C i).1 := by
  intro i
  induction i using Nat.strongRecOn with
  | _ i ih =>
    intro f hif hin
    obtain ⟨f, rfl⟩ : ∃ g, f = g + 1 := ⟨f - 1, by omega⟩
    refine ⟨_, rfl, ?_⟩
    rw [backT_step, ways_wq T C hin]
    have hk := wq_kind T C i
    rcases wq_is T C i with h | ⟨j, hj, h⟩
    · have hf : (wq T C i).2.1 = -1 := by rw [h]; rfl
      rw [hf, backT_neg _ _ (by omega)]
      have hb : (wq T C i).1 = (blockB (segT T 0 (C.getD i 0)) (wq T C i).2.2 false).length := by
        rw [h]
        simp only [wayT]
        rw [(cst_kd _).1]
        omega
      refine ⟨⟨by simp, by simp; exact hin, by simp; exact hk⟩, by simp, by simp, ?_⟩
      simp [prs, lonF, hb]
    · have hf : (wq T C i).2.1 = (j : Int) := by rw [h]; rfl
      obtain ⟨l, hl, hc, hlast, hle, hlon⟩ := ih j hj f (by omega) (by omega)
      rw [hf, List.reverse_cons, List.map_append, hl]
      have hb : (wq T C i).1 = (wq T C j).1 + (blockB (segT T (C.getD j 0) (C.getD i 0)) (wq T C i).2.2 false).length := by
        rw [h]
        simp only [wayT]
        rw [(cst_kd _).1]
      simp only [List.map_cons, List.map_nil]
      refine ⟨⟨?_, ?_, ?_⟩, by simp, ?_, ?_⟩
      · rw [List.pairwise_append]
        refine ⟨hc.rise, by simp, fun a ha b hb => ?_⟩
        simp only [List.mem_singleton] at hb
        subst hb
        have := hle a ha
        simp only
        omega
      · intro p hp
        rcases List.mem_append.1 hp with hp | hp
        · exact hc.low p hp
        · simp only [List.mem_singleton] at hp; subst hp; exact hin
      · intro p hp
        rcases List.mem_append.1 hp with hp | hp
        · exact hc.kind p hp
        · simp only [List.mem_singleton] at hp; subst hp; exact hk
      · intro p hp
        rcases List.mem_append.1 hp with hp | hp
        · have := hle p hp; omega
        · simp only [List.mem_singleton] at hp; subst hp; exact Nat.le_refl _
      · rw [prs, List.map_append, ← prs]
        simp only [List.map_cons, List.map_nil]
        rw [lonF_snoc T _ _ (prs C l) 0 (((C.getD j 0 : Nat) : Int), (wq T C j).2.2) (by rw [prs, List.getLast?_map, hlast]; rfl), hlon, hb]
        simp only [Int.toNat_natCast]
/-- What a plan is. -/
structure PlanOk (T : List Tok) (C : List Nat) (cs ks : List Int) : Prop where
  ex : ∃ l : List (Nat × Int), cs = l.map (fun p => ((C.getD p.1 0 : Nat) : Int)) ∧ ks = l.map (fun p => p.2) ∧ Chn C.length l ∧ (∃ k, l.getLast? = some (C.length - 1, k)) ∧ lonF T (prs C l) 0 = (wq T C (C.length - 1)).1 ∧ l.length = (planI T C).length ∧ l.length ≤ C.length
theorem plan_ok {T : List Tok} {C : List Nat} (h0 : 0 < C.length) : PlanOk T C (atT T C) (ksT T C) := by
  obtain ⟨l, hl, hc, hlast, hle, hlon⟩ := chn_back (T := T) (C := C) (n := C.length) (C.length - 1) C.length (by omega) (by omega)
  have hp : planI T C = backT (waysT T C C.length) C.length ((C.length - 1 : Nat) : Int) := by
    unfold planI
    rw [show ((C.length - 1 : Nat) : Int) = (C.length : Int) - 1 by omega]
  rw [← hp] at hl
  have hlen := backT_length (waysT T C C.length) C.length ((C.length - 1 : Nat) : Int)
  rw [← hp] at hlen
  have hmem : ∀ i ∈ planI T C, i < C.length := fun i hi => by
    have : (i, (wq T C i).2.2) ∈ l := by
      rw [← hl]
      exact List.mem_map.2 ⟨i, List.mem_reverse.2 hi, rfl⟩
    exact hc.low _ this
  refine ⟨l, ?_, ?_, hc, ⟨_, hlast⟩, hlon, by rw [← hl]; simp, by rw [← hl]; simpa using hlen⟩
  · rw [← hl, atT, ← List.map_reverse, List.map_map]
    rfl
  · rw [← hl, ksT, ← List.map_reverse, List.map_map]
    refine List.map_congr_left fun i hi => ?_
    rw [ways_wq T C (hmem i (List.mem_reverse.1 hi))]
    rfl
end Go.Proofs.Ytpbodonmiepilaa
/- lz: the walks of what tells whether a token may stand. -/
namespace Go.Proofs.Ytpbodonmiepilaa
open Go.RowKit

set_option maxHeartbeats 1600000 in
theorem right_any (t : Tok) (n : Nat) (w : World) : Calls Try.prog 39 #[tval t, .int .i64 n] w (Ret fun v w' => v = .bool (may t n) ∧ Own w w' []) := by
  obtain ⟨a, b, c⟩ := t
  have H := (Own.start w).alloc' (.cells #[.int .i64 a, .int .i64 b, .int .i64 c] 46)
  unfold tval
  go_enter Try.func39, Try.ntmps39
  by_cases ha : a = 0
  · subst ha
    have e : Hid (may ⟨0, b, c⟩ n = decide (b = 0 ∧ 0 ≤ c ∧ c < 256)) := Lib.hid (by unfold may; rw [if_pos rfl])
    rw [e.out]
    by_cases hb : b = 0
    · subst hb
      by_cases h1 : 0 ≤ c
      · by_cases h2 : c < 256
        · have e : Hid (decide ((0 : Int) = 0 ∧ 0 ≤ c ∧ c < 256) = true) := Lib.hid (decide_eq_true ⟨rfl, h1, h2⟩)
          rw [e.out]
          go_wp2
          go_ret
          exact ⟨_, rfl, rfl, H⟩
        · have e : Hid (decide ((0 : Int) = 0 ∧ 0 ≤ c ∧ c < 256) = false) := Lib.hid (decide_eq_false (by omega))
          rw [e.out]
          go_wp2
          go_ret
          exact ⟨_, rfl, rfl, H⟩
      · have e : Hid (decide ((0 : Int) = 0 ∧ 0 ≤ c ∧ c < 256) = false) := Lib.hid (decide_eq_false (by omega))
        rw [e.out]
        go_wp2
        go_ret
        exact ⟨_, rfl, rfl, H⟩
    · have e : Hid (decide (b = 0 ∧ 0 ≤ c ∧ c < 256) = false) := Lib.hid (decide_eq_false (by omega))
      have hb' : (b == 0) = false := by simp [hb]
      rw [e.out]
      go_wp2
      go_ret
      exact ⟨_, rfl, rfl, H⟩
  · have ha' : (a == 0) = false := by simp [ha]
    have e : Hid (may ⟨a, b, c⟩ n = decide (c = 0 ∧ 3 ≤ a ∧ a ≤ 258 ∧ 1 ≤ b ∧ b ≤ 32768 ∧ b ≤ n)) := Lib.hid (by unfold may; rw [if_neg ha])
    rw [e.out]
    clear ha e
    by_cases hc : c = 0
    · subst hc
      by_cases h1 : 3 ≤ a
      · by_cases h2 : a ≤ 258
        · by_cases h3 : 1 ≤ b
          · by_cases h4 : b ≤ 32768
            · by_cases h5 : b ≤ (n : Int)
              · have e : Hid (decide ((0 : Int) = 0 ∧ 3 ≤ a ∧ a ≤ 258 ∧ 1 ≤ b ∧ b ≤ 32768 ∧ b ≤ n) = true) := Lib.hid (decide_eq_true (by omega))
                rw [e.out]
                go_wp2
                all_goals
                  go_ret
                  exact ⟨_, rfl, (by first | rfl | (congr 1; simp; omega)), H⟩
              · have e : Hid (decide ((0 : Int) = 0 ∧ 3 ≤ a ∧ a ≤ 258 ∧ 1 ≤ b ∧ b ≤ 32768 ∧ b ≤ n) = false) := Lib.hid (decide_eq_false (by omega))
                rw [e.out]
                go_wp2
                all_goals
                  go_ret
                  exact ⟨_, rfl, (by first | rfl | (congr 1; simp; omega)), H⟩
            · have e : Hid (decide ((0 : Int) = 0 ∧ 3 ≤ a ∧ a ≤ 258 ∧ 1 ≤ b ∧ b ≤ 32768 ∧ b ≤ n) = false) := Lib.hid (decide_eq_false (by omega))
              rw [e.out]
              go_wp2
              all_goals
                go_ret
                exact ⟨_, rfl, (by first | rfl | (congr 1; simp; omega)), H⟩
          · have e : Hid (decide ((0 : Int) = 0 ∧ 3 ≤ a ∧ a ≤ 258 ∧ 1 ≤ b ∧ b ≤ 32768 ∧ b ≤ n) = false) := Lib.hid (decide_eq_false (by omega))
            rw [e.out]
            go_wp2
            go_ret
            exact ⟨_, rfl, rfl, H⟩
        · have e : Hid (decide ((0 : Int) = 0 ∧ 3 ≤ a ∧ a ≤ 258 ∧ 1 ≤ b ∧ b ≤ 32768 ∧ b ≤ n) = false) := Lib.hid (decide_eq_false (by omega))
          rw [e.out]
          go_wp2
          go_ret
          exact ⟨_, rfl, rfl, H⟩
      · have e : Hid (decide ((0 : Int) = 0 ∧ 3 ≤ a ∧ a ≤ 258 ∧ 1 ≤ b ∧ b ≤ 32768 ∧ b ≤ n) = false) := Lib.hid (decide_eq_false (by omega))
        rw [e.out]
        go_wp2
        go_ret
        exact ⟨_, rfl, rfl, H⟩
    · have e : Hid (decide (c = 0 ∧ 3 ≤ a ∧ a ≤ 258 ∧ 1 ≤ b ∧ b ≤ 32768 ∧ b ≤ n) = false) := Lib.hid (decide_eq_false (by omega))
      have hc' : (c == 0) = false := by simp [hc]
      rw [e.out]
      go_wp2
      go_ret
      exact ⟨_, rfl, rfl, H⟩

set_option maxHeartbeats 1600000 in
theorem may_any (t : Tok) (n : Nat) (w : World) : Calls Try.prog 28 #[tval t, .int .i64 n] w (Ret fun v w' => v = .bool (may t n) ∧ Own w w' []) := by
  obtain ⟨a, b, c⟩ := t
  have H := (Own.start w).alloc' (.cells #[.int .i64 a, .int .i64 b, .int .i64 c] 46)
  unfold tval
  go_enter Try.func28, Try.ntmps28
  by_cases ha : a = 0
  · subst ha
    have e : Hid (may ⟨0, b, c⟩ n = decide (b = 0 ∧ 0 ≤ c ∧ c < 256)) := Lib.hid (by unfold may; rw [if_pos rfl])
    rw [e.out]
    by_cases hb : b = 0
    · subst hb
      by_cases h1 : 0 ≤ c
      · by_cases h2 : c ≤ 255
        · have e : Hid (decide ((0 : Int) = 0 ∧ 0 ≤ c ∧ c < 256) = true) := Lib.hid (decide_eq_true (by omega))
          rw [e.out]
          go_wp2
          go_ret
          exact ⟨_, rfl, rfl, H⟩
        · have e : Hid (decide ((0 : Int) = 0 ∧ 0 ≤ c ∧ c < 256) = false) := Lib.hid (decide_eq_false (by omega))
          rw [e.out]
          go_wp2
          go_ret
          exact ⟨_, rfl, rfl, H⟩
      · have e : Hid (decide ((0 : Int) = 0 ∧ 0 ≤ c ∧ c < 256) = false) := Lib.hid (decide_eq_false (by omega))
        rw [e.out]
        go_wp2
        go_ret
        exact ⟨_, rfl, rfl, H⟩
    · have e : Hid (decide (b = 0 ∧ 0 ≤ c ∧ c < 256) = false) := Lib.hid (decide_eq_false (by omega))
      have hb' : (b == 0) = false := by simp [hb]
      rw [e.out]
      go_wp2
      go_ret
      exact ⟨_, rfl, rfl, H⟩
  · have ha' : (a == 0) = false := by simp [ha]
    have e : Hid (may ⟨a, b, c⟩ n = decide (c = 0 ∧ 3 ≤ a ∧ a ≤ 258 ∧ 1 ≤ b ∧ b ≤ 32768 ∧ b ≤ n)) := Lib.hid (by unfold may; rw [if_neg ha])
    rw [e.out]
    clear ha e
    by_cases hc : c = 0
    · subst hc
      by_cases h1 : 3 ≤ a
      · by_cases h2 : a ≤ 258
        · by_cases h3 : 1 ≤ b
          · by_cases h4 : b ≤ 32768
            · by_cases h5 : b ≤ (n : Int)
              · have e : Hid (decide ((0 : Int) = 0 ∧ 3 ≤ a ∧ a ≤ 258 ∧ 1 ≤ b ∧ b ≤ 32768 ∧ b ≤ n) = true) := Lib.hid (decide_eq_true (by omega))
                rw [e.out]
                go_wp2
                go_ret
                exact ⟨_, rfl, rfl, H⟩
              · have e : Hid (decide ((0 : Int) = 0 ∧ 3 ≤ a ∧ a ≤ 258 ∧ 1 ≤ b ∧ b ≤ 32768 ∧ b ≤ n) = false) := Lib.hid (decide_eq_false (by omega))
                rw [e.out]
                go_wp2
                go_ret
                exact ⟨_, rfl, rfl, H⟩
            · have e : Hid (decide ((0 : Int) = 0 ∧ 3 ≤ a ∧ a ≤ 258 ∧ 1 ≤ b ∧ b ≤ 32768 ∧ b ≤ n) = false) := Lib.hid (decide_eq_false (by omega))
              rw [e.out]
              go_wp2
              go_ret
              exact ⟨_, rfl, rfl, H⟩
          · have e : Hid (decide ((0 : Int) = 0 ∧ 3 ≤ a ∧ a ≤ 258 ∧ 1 ≤ b ∧ b ≤ 32768 ∧ b ≤ n) = false) := Lib.hid (decide_eq_false (by omega))
            rw [e.out]
            go_wp2
            go_ret
            exact ⟨_, rfl, rfl, H⟩
        · have e : Hid (decide ((0 : Int) = 0 ∧ 3 ≤ a ∧ a ≤ 258 ∧ 1 ≤ b ∧ b ≤ 32768 ∧ b ≤ n) = false) := Lib.hid (decide_eq_false (by omega))
          rw [e.out]
          go_wp2
          go_ret
          exact ⟨_, rfl, rfl, H⟩
      · have e : Hid (decide ((0 : Int) = 0 ∧ 3 ≤ a ∧ a ≤ 258 ∧ 1 ≤ b ∧ b ≤ 32768 ∧ b ≤ n) = false) := Lib.hid (decide_eq_false (by omega))
        rw [e.out]
        go_wp2
        go_ret
        exact ⟨_, rfl, rfl, H⟩
    · have e : Hid (decide (c = 0 ∧ 3 ≤ a ∧ a ≤ 258 ∧ 1 ≤ b ∧ b ≤ 32768 ∧ b ≤ n) = false) := Lib.hid (decide_eq_false (by omega))
      have hc' : (c == 0) = false := by simp [hc]
      rw [e.out]
      go_wp2
      go_ret
      exact ⟨_, rfl, rfl, H⟩
end Go.Proofs.Ytpbodonmiepilaa
/- lz: the walk of Expand. -/
namespace Go.Proofs.Ytpbodonmiepilaa
open Go.RowKit

def resVal : Res → Value
  | .err e => .tuple #[.string ⟨#[]⟩, .int .i64 e]
  | .ok out => .tuple #[.string (strOfNums out), .int .i64 0]

set_option maxRecDepth 100000 in
set_option maxHeartbeats 3200000 in
theorem expand_any {w : World} {v : Value} (l : List Tok) (most : Int) (hR : Rd w 3 v l.length (rows tcell l)) (hl : l.length ≤ 3000) :
    Calls Try.prog 26 #[v, .int .i64 most] w (Ret fun r w' => r = resVal (exp most l []) ∧ Own w w' []) := by
  obtain ⟨R, hRR⟩ : ∃ R, Hid (exp most l [] = R) := ⟨_, rfl⟩
  rw [hRR.out]
  obtain ⟨N, hN⟩ : ∃ N, Hid (l.length = N) := ⟨_, rfl⟩
  rw [hN.out] at hR hl
  have HR := Lib.hid hR
  obtain ⟨a, c, rfl, hc1, hc2⟩ := hR.shape
  clear hR
  have H := (Own.start w).nil 5 1
  go_enter Try.func26, Try.ntmps26
  go_wp2_with fail
  go_loopw [6, 11] (fun s6 s11 wr => ∃ (k : Nat) (out : List Int), s11 = .int .i64 k ∧ k ≤ N ∧ Hid (exp most (l.drop k) out = R) ∧ out.length ≤ 258 * k ∧ Own w wr [slc 5 1 s6 out.length (bcells out)]) (fun _ s11 _ => N - (intOf s11).toNat)
  case atStart => exact ⟨0, [], by simp, by omega, hRR, by simp, H⟩
  case round =>
    clear H
    obtain ⟨k, out, rfl, hk, hex, hol, H⟩ := hrel
    by_cases hkN : k < N
    · have hkI : (k : Int) < (N : Int) := by omega
      obtain ⟨t, ht⟩ : ∃ t, l[k]? = some t := ⟨l[k]'(by rw [hN.out]; exact hkN), List.getElem?_eq_getElem _⟩
      have hdrop : l.drop k = t :: l.drop (k + 1) := by
        obtain ⟨hk', rfl⟩ := List.getElem?_eq_some_iff.1 ht
        exact List.drop_eq_getElem_cons hk'
      have hex' := hex.out
      rw [hdrop, exp] at hex'
      clear hex hdrop
      obtain ⟨b, o, c', he, hc1', hc2', hcell⟩ := HR.out.at (by rw [HR.out.len]; omega)
      cases he
      have HT := Lib.hid ht
      clear ht hcell
      obtain ⟨c1, c2, c3⟩ := tok_cells (HR.out.old H) HT.out
      obtain ⟨x, y, z⟩ := t
      simp only at c1 c2 c3
      obtain ⟨n, hn⟩ : ∃ n, Hid (out.length = n) := ⟨_, rfl⟩
      rw [hn.out] at H hol hex'
      obtain ⟨a', d', rfl, hd1, hd2⟩ := H.rd.shape
      go_upto_region 5 with (refine wpList_store_agg rfl _ _ rfl rfl (H.alloc _) rfl (by kernel_rfl) (by simp) (by simp; exact ⟨rfl, rfl, rfl⟩) rfl ?_; clear H; intro w5 H)
      generalize wr.heap.size = cb at *
      have H : Own w w5 (blk cb (.cells #[.int .i64 x, .int .i64 y, .int .i64 z] 46) :: [slc 5 1 (.slice a' n d') n (bcells out)]) := H
      clear c1 c2 c3
      have c0 := H.cells
      go_wp2_with fail
      refine (right_any ⟨x, y, z⟩ n w5).mono ?_
      rintro e w6 ⟨_, rfl, rfl, H6⟩
      replace H := H.join H6
      have H : Own w w6 (blk cb (.cells #[.int .i64 x, .int .i64 y, .int .i64 z] 46) :: [slc 5 1 (.slice a' n d') n (bcells out)]) := H
      clear H6 c0
      have c0 := H.cells
      obtain ⟨mb, hmb⟩ : ∃ mb, Hid (may ⟨x, y, z⟩ n = mb) := ⟨_, rfl⟩
      rw [hmb.out] at hex' ⊢
      cases mb with
      | false =>
        rw [if_pos rfl] at hex'
        have hfin := Lib.hid hex'
        clear hex'
        go_wp2
        go_ret2
        exact ⟨_, rfl, by rw [← hfin.out]; rfl, H.bare⟩
      | true =>
        rw [if_neg (by simp)] at hex'
        obtain ⟨r, hr⟩ : ∃ r, Hid (IntKind.i64.wrap (most - (n : Int)) = r) := ⟨_, rfl⟩
        have hrw := hr.out
        rw [hrw] at hex'
        obtain ⟨m, rfl⟩ : ∃ m : Nat, x = m := by
          by_cases hx0 : x = 0
          · exact ⟨0, by omega⟩
          · have := may_back hmb.out hx0; exact ⟨x.toNat, by omega⟩
        obtain ⟨d, rfl⟩ : ∃ d : Nat, y = d := by
          by_cases hx0 : (m : Int) = 0
          · have := may_lit hmb.out hx0; exact ⟨0, by omega⟩
          · have := may_back hmb.out hx0; exact ⟨y.toNat, by omega⟩
        have hM : Hid ((m = 0 ∧ d = 0 ∧ 0 ≤ z ∧ z < 256) ∨ (z = 0 ∧ 3 ≤ m ∧ m ≤ 258 ∧ 1 ≤ d ∧ d ≤ n)) := Lib.hid (by
          by_cases hx0 : (m : Int) = 0
          · have := may_lit hmb.out hx0; left; omega
          · have := may_back hmb.out hx0; right; omega)
        have herr : R = .err 12 → ∀ wz, Own w wz [blk cb (.cells #[.int .i64 m, .int .i64 d, .int .i64 z] 46), slc 5 1 (.slice a' n d') n (bcells out)] → ∃ v, Ending.returned (.tuple #[.string ⟨#[]⟩, .int .i64 12]) = .returned v ∧ v = resVal R ∧ Own w wz [] := fun h wz hz => ⟨_, rfl, by rw [h]; rfl, hz.bare⟩
        have HE := Lib.hid herr
        clear herr
        by_cases hm0 : m = 0
        case' pos =>
          have hmz : ((m : Int) == 0) = true := by simp [hm0]
          have hm1 : (m : Int) < 1 := by omega
          rw [show max (m : Int) 1 = 1 by omega, if_pos (show (m : Int) = 0 by omega)] at hex'
          by_cases hlim : r < 1
          case' pos =>
            rw [if_pos hlim] at hex'
            have hfin := Lib.hid hex'.symm
            clear hex' hm0
            go_wp2
            go_ret2
            exact HE.out hfin.out _ H
          rw [if_neg hlim] at hex'
          have hwz : IntKind.u8.wrap z = z := by rw [IntKind.wrap_u8]; have := hM.out; omega
          have hc0 : copyN d (out ++ [z]) m = out ++ [z] := by rw [hm0]; rfl
          have hE : Hid (exp most (l.drop (k + 1)) (copyN d (out ++ [z]) m) = R) := Lib.hid (by rw [hc0]; exact hex')
          have hdn : Hid (m = 0 ∨ (1 ≤ d ∧ d ≤ n + 1)) := Lib.hid (.inl (by omega))
          have hn1 : n + 1 + m ≤ 258 * (k + 1) := by omega
          have hlen : Hid ((out ++ [z]).length = n + 1) := Lib.hid (by rw [List.length_append, hn.out]; rfl)
          clear hex' hm0 hM hr hc0 HE
          go_upto_region 11 with (at_builtin; refine wpList_append_one rfl _ _ rfl Try.underlying54 u8Info rfl (by decide) rfl H.swap (news := [.int .u8 z]) rfl rfl rfl (by simp [Value.oneCell']) (by omega) (by omega) ?_; clear H c0; intro v' w7 H; replace H := H.swap; have c0 := H.cells)
          rw [bcells_snoc] at H
          clear hlim hwz
          generalize out ++ [z] = out1 at *
          generalize n + 1 = n1 at *
        case' neg =>
          have hmz : ((m : Int) == 0) = false := by simp; omega
          have hm1 : ¬ (m : Int) < 1 := by omega
          rw [show max (m : Int) 1 = m by omega, if_neg (show ¬ (m : Int) = 0 by omega)] at hex'
          by_cases hlim : r < m
          case' pos =>
            rw [if_pos hlim] at hex'
            have hfin := Lib.hid hex'.symm
            clear hex' hm0
            go_wp2
            go_ret2
            exact HE.out hfin.out _ H
          rw [if_neg hlim] at hex'
          have hE : Hid (exp most (l.drop (k + 1)) (copyN d out m) = R) := Lib.hid (by simpa using hex')
          have hdn : Hid (m = 0 ∨ (1 ≤ d ∧ d ≤ n)) := Lib.hid (by have := hM.out; omega)
          have hn1 : n + m ≤ 258 * (k + 1) := by have := hM.out; omega
          have hlen : Hid (out.length = n) := hn
          clear hex' hm0 hM hr HE
          go_upto_region 11 with (fail)
          clear hlim
          generalize (Value.slice a' n d') = v' at *
          generalize out = out1 at *
          generalize n = n1 at *
        all_goals
          clear hm1 hmz
          go_wp2_with fail
          go_loopw [6, 39] (fun s6 s39 wr => ∃ j : Nat, s39 = .int .i64 j ∧ j ≤ m ∧ Own w wr [blk cb (.cells #[.int .i64 m, .int .i64 d, .int .i64 z] 46), slc 5 1 s6 (n1 + j) (bcells (copyN d out1 j))]) (fun _ s39 _ => m - (intOf s39).toNat)
          case atStart => exact ⟨0, by simp, by omega, H⟩
          case round =>
            clear H c0
            obtain ⟨j, rfl, hj, H⟩ := hrel
            by_cases hjm : j < m
            · have hjI : (j : Int) < (m : Int) := by omega
              have hd1 : 1 ≤ d := by have := hdn.out; omega
              have hd2 : d ≤ n1 := by have := hdn.out; omega
              have hcl : (copyN d out1 j).length = n1 + j := by rw [copyN_length, hlen.out]
              obtain ⟨L, hL⟩ : ∃ L, Hid (n1 + j = L) := ⟨_, rfl⟩
              rw [hL.out] at H hcl
              have hLb : L ≤ 800000 := by have := hL.out; omega
              obtain ⟨q, hq⟩ : ∃ q, Hid (L - d = q) := ⟨_, rfl⟩
              have hdL : d ≤ L := by have := hL.out; omega
              have hqI : (L : Int) - (d : Int) = (q : Int) := by have := hq.out; omega
              have hqL : q < L := by have := hq.out; omega
              have hqLI : (q : Int) < (L : Int) := by omega
              obtain ⟨x, hx⟩ : ∃ x, (copyN d out1 j)[q]? = some x := ⟨_, List.getElem?_eq_getElem (by omega)⟩
              have hnx : Hid (copyN d out1 (j + 1) = copyN d out1 j ++ [x]) := Lib.hid (by
                rw [copyN, hcl, hq.out, List.getD_eq_getElem?_getD, hx]; rfl)
              have HX := Lib.hid (bcells_get hx)
              clear hx
              obtain ⟨OJ, hOJ⟩ : ∃ OJ, Hid (copyN d out1 j = OJ) := ⟨_, rfl⟩
              rw [hOJ.out] at H HX hnx
              clear hcl
              obtain ⟨gb, cc, rfl, hg1, hg2, _⟩ := H.swap.at (by rw [bcells_length, ← hOJ.out, copyN_length, hlen.out]; have := hL.out; omega)
              have c0 := H.cells
              have c1 := H.swap.rd.cell HX.out
              rw [Nat.zero_add] at c1
              go_wp2_with (at_builtin; refine wpList_append_one rfl _ _ rfl Try.underlying54 u8Info rfl (by decide) rfl H.swap (news := [.int .u8 x]) rfl rfl rfl (by simp [Value.oneCell']) (by omega) (by omega) ?_; clear H c0 c1; intro v' w7 H; replace H := H.swap)
              go_roundw
              case rel =>
                refine ⟨j + 1, by go_num, by omega, ?_⟩
                rw [hnx.out, ← bcells_snoc, ← Nat.add_assoc, hL.out]
                exact H
              case measure => simp [intOf]; omega
            · have hjI : ¬ (j : Int) < (m : Int) := by omega
              have hjm2 : j = m := by omega
              have hcl : (copyN d out1 m).length = n1 + m := by rw [copyN_length, hlen.out]
              rw [hjm2] at H
              go_wp2_with fail
              go_roundw
              case rel =>
                refine ⟨k + 1, copyN d out1 m, by go_num, by omega, hE, by omega, ?_⟩
                rw [hcl]
                exact H.drop
              case measure => simp [intOf]; omega
    · have hkI : ¬ (k : Int) < (N : Int) := by omega
      have hfin : Hid (R = .ok out) := Lib.hid (by rw [← hex.out, List.drop_eq_nil_of_le (by rw [hN.out]; omega), exp])
      clear hex
      obtain ⟨a', d', rfl, hd1, hd2⟩ := H.rd.shape
      have hst := run_string_sep (P := Try.prog) 54 9 Try.underlying54 Try.underlying5 Try.underlying9 (ns := out) H.rd
      go_wp2
      go_ret2
      exact ⟨_, rfl, by rw [hfin.out]; rfl, H.bare⟩
end Go.Proofs.Ytpbodonmiepilaa
/- split: the walk of With. -/
namespace Go.Proofs.Ytpbodonmiepilaa
open Go.RowKit

def wV : Option (List Bool) → Value
  | none => .tuple #[.string ⟨#[]⟩, .int .i64 1]
  | some R => .tuple #[.string (textOf R), .int .i64 0]
/-- What With answers. -/
def withV (T : List Tok) (cs ks : List Int) : Value :=
  if cs.length = 0 ∨ cs.length ≠ ks.length ∨ cs.getD (cs.length - 1) 0 ≠ T.length then .tuple #[.string ⟨#[]⟩, .int .i64 1]
  else match exp 2147483648 T [] with
    | .err e => .tuple #[.string ⟨#[]⟩, .int .i64 e]
    | .ok _ => wV (wloop T (cs.zip ks) 0 [])
theorem zip_drop {cs ks : List Int} {i : Nat} (h1 : i < cs.length) (h2 : i < ks.length) : (cs.zip ks).drop i = (cs.getD i 0, ks.getD i 0) :: (cs.zip ks).drop (i + 1) := by
  have h : i < (cs.zip ks).length := by rw [List.length_zip]; omega
  rw [List.drop_eq_getElem_cons h, List.getElem_zip]
  simp [List.getD, List.getElem?_eq_getElem h1, List.getElem?_eq_getElem h2]
set_option maxRecDepth 100000 in
set_option maxHeartbeats 6400000 in
theorem with_any {w : World} {tv cv kv : Value} {T : List Tok} {cs ks : List Int} (ht : Rd w 3 tv T.length (rows tcell T)) (hc : Rd w 1 cv cs.length (nums cs)) (hk : Rd w 1 kv ks.length (nums ks)) (hT : T.length ≤ 3000) (hcl : cs.length ≤ 100) (hkl : ks.length ≤ 1000000) :
    Calls Try.prog 14 #[tv, cv, kv] w (Ret fun r w' => r = withV T cs ks ∧ Own w w' []) := by
  obtain ⟨ta, tc, rfl, htc1, htc2⟩ := ht.shape
  obtain ⟨ca, cc, rfl, hcc1, hcc2⟩ := hc.shape
  obtain ⟨ka, kc, rfl, hkc1, hkc2⟩ := hk.shape
  obtain ⟨RV, hRV⟩ : ∃ v, Hid (withV T cs ks = v) := ⟨_, rfl⟩
  have hRV2 := hRV.out
  unfold withV at hRV2
  rw [hRV.out]
  have hex := expand_any T 2147483648 ht hT
  obtain ⟨N, hN⟩ : ∃ N, Hid (T.length = N) := ⟨_, rfl⟩
  obtain ⟨Lc, hLc⟩ : ∃ N, Hid (cs.length = N) := ⟨_, rfl⟩
  obtain ⟨Lk, hLk⟩ : ∃ N, Hid (ks.length = N) := ⟨_, rfl⟩
  rw [hN.out] at ht hRV2 hex htc1 hT ⊢
  rw [hLc.out] at hc hRV2 hcc1 hcl ⊢
  rw [hLk.out] at hk hRV2 hkc1 hkl ⊢
  have HT := Lib.hid ht
  have HC := Lib.hid hc
  have HK := Lib.hid hk
  have HX := Lib.hid hex
  clear ht hc hk hex hRV
  have H := Own.start w
  go_enter Try.func14, Try.ntmps14
  by_cases hA : Lc = 0 ∨ Lc ≠ Lk ∨ cs.getD (Lc - 1) 0 ≠ N
  · rw [if_pos hA] at hRV2
    replace hRV := Lib.hid hRV2
    clear hRV2
    by_cases h0 : Lc = 0
    · have hb : ((Lc : Int) == 0) = true := by simp [h0]
      clear hA h0
      go_wp2
      go_ret2
      exact ⟨_, rfl, hRV.out, H⟩
    · by_cases h1 : Lc = Lk
      · obtain ⟨M, rfl⟩ : ∃ M, Lc = M + 1 := ⟨Lc - 1, by omega⟩
        obtain rfl : Lk = M + 1 := by omega
        have hb : ((M : Int) + 1 == 0) = false := by simp; omega
        obtain ⟨bc, oc, rfl, ccell⟩ := rd_at HC.out H (i := M) (by omega)
        obtain ⟨x, hx⟩ : ∃ x, cs.getD M 0 = x := ⟨_, rfl⟩
        rw [hx] at ccell
        have hx2 : (x != (N : Int)) = true := by
          rcases hA with h | h | h
          · omega
          · exact absurd h1 h
          · rw [Nat.add_sub_cancel, hx] at h; simpa using h
        have hx3 : (x == (N : Int)) = false := by simpa using hx2
        clear hA h0 h1 hx
        go_wp2
        go_ret2
        exact ⟨_, rfl, hRV.out, H⟩
      · have hb : ((Lc : Int) == 0) = false := by simp [h0]
        have hb1 : ((Lc : Int) != (Lk : Int)) = true := by simp; omega
        have hb2 : ((Lc : Int) == (Lk : Int)) = false := by simp; omega
        clear hA h0 h1
        go_wp2
        go_ret2
        exact ⟨_, rfl, hRV.out, H⟩
  · rw [if_neg hA] at hRV2
    obtain ⟨M, rfl⟩ : ∃ M, Lc = M + 1 := ⟨Lc - 1, by omega⟩
    obtain rfl : Lk = M + 1 := by omega
    have hlast : cs.getD M 0 = N := by
      by_cases h : cs.getD M 0 = N
      · exact h
      · exact absurd (.inr (.inr (by rw [Nat.add_sub_cancel]; exact h))) hA
    clear hA
    obtain ⟨bc, oc, rfl, ccell⟩ := rd_at HC.out H (i := M) (by omega)
    rw [hlast] at ccell
    replace hlast := Lib.hid hlast
    have hb : ((M : Int) + 1 == 0) = false := by simp; omega
    obtain ⟨Rx, hRx⟩ : ∃ R, Hid (exp 2147483648 T [] = R) := ⟨_, rfl⟩
    rw [hRx.out] at HX hRV2
    replace hRV := Lib.hid hRV2
    clear hRV2
    go_wp2_with fail
    refine HX.out.mono ?_
    rintro e w1 ⟨_, rfl, rfl, J⟩
    replace H := H.join J
    clear J HX ccell
    cases Rx with
    | err e0 =>
      have he0 : ((e0 : Int) != 0) = true := by
        rcases exp_err2 T [] e0 hRx.out with h | h <;> simp [h]
      have he1 : ((e0 : Int) == 0) = false := by simpa using he0
      have hRV3 : Hid (Value.tuple #[.string ⟨#[]⟩, .int .i64 e0] = RV) := Lib.hid hRV.out
      simp only [resVal]
      clear hRV hRx
      go_wp2
      go_ret2
      exact ⟨_, rfl, hRV3.out, H⟩
    | ok out =>
      have hRV3 : Hid (wV (wloop T (cs.zip ks) 0 []) = RV) := Lib.hid hRV.out
      have hok := (exp_len T [] out hRx.out).2
      have HOK := Lib.hid hok
      simp only [resVal]
      clear hRV hRx hok
      have H2 : Own w (w1.alloc (.cells #[.slice none 0 0, .int .i64 0] 56)) [Wtr w1.heap.size []] := H.newWtr
      clear H
      go_upto_region 7 with (fail)
      generalize w1.alloc _ = w2 at *
      generalize w1.heap.size = g at *
      have hcz : Hid (wloop T ((cs.zip ks).drop 0) 0 [] = wloop T (cs.zip ks) 0 []) := Lib.hid rfl
      obtain ⟨Rr, hRr⟩ : ∃ R, Hid (wloop T (cs.zip ks) 0 [] = R) := ⟨_, rfl⟩
      rw [hRr.out] at hRV3 hcz
      have HR : Hid (∀ ps : List Piece, Reads w ps 3 (.slice ta N tc) N (rows tcell T)) := Lib.hid fun ps w' h => HT.out.old h
      clear hRr hlast hb
      go_wp2_with fail
      go_loopw [11, 45] (fun v11 v45 wx => ∃ (i fr : Nat) (Bs : List Bool), v11 = .int .i64 fr ∧ v45 = .int .i64 i ∧ i ≤ M + 1 ∧ fr ≤ N ∧ Bs.length ≤ i * 200000 ∧ Hid (wloop T ((cs.zip ks).drop i) fr Bs = Rr) ∧ Own w wx [Wtr g Bs]) (fun _ v45 _ => M + 1 - (intOf v45).toNat)
      case atStart => exact ⟨0, 0, [], rfl, rfl, by omega, by omega, by simp, hcz, H2⟩
      case round =>
        clear H2 hcz
        obtain ⟨i, fr, Bs, rfl, rfl, hi, hfr, hbl, hst, H⟩ := hrel
        by_cases hiM : i < M + 1
        · have hiI : (i : Int) < (M : Int) + 1 := by omega
          obtain ⟨b1, o1, e1, cc1⟩ := rd_at HC.out H hiM
          cases e1
          obtain ⟨b2, o2, rfl, cc2⟩ := rd_at HK.out H hiM
          have hzd := zip_drop (cs := cs) (ks := ks) (i := i) (by rw [hLc.out]; exact hiM) (by rw [hLk.out]; exact hiM)
          have hst2 := hst.out
          rw [hzd, wloop] at hst2
          have HC2 : Hid (∀ w' (ps : List Piece), Own w w' ps → w'.cell? ⟨bc, oc + i, none⟩ = some (.int .i64 (cs.getD i 0)) ∧ w'.cell? ⟨b2, o2 + i, none⟩ = some (.int .i64 (ks.getD i 0))) := Lib.hid fun w' ps h => by
            obtain ⟨_, _, e1, h1⟩ := rd_at HC.out h hiM
            obtain ⟨_, _, e2, h2⟩ := rd_at HK.out h hiM
            cases e1; cases e2
            exact ⟨h1, h2⟩
          generalize cs.getD i 0 = x at *
          generalize ks.getD i 0 = kd at *
          replace hst2 := Lib.hid hst2
          clear hst hzd
          by_cases hbad : wbad T.length fr x kd = true
          · have hn : Rr = none := by have h := hst2.out; rw [if_pos hbad] at h; exact h.symm
            have hRV4 : Hid (Value.tuple #[.string ⟨#[]⟩, .int .i64 1] = RV) := Lib.hid (by rw [← hRV3.out, hn]; rfl)
            have hways : x < fr ∨ ¬ x < fr ∧ (N : Int) < x ∨ ¬ x < fr ∧ ¬ (N : Int) < x ∧ kd < 1 ∨ ¬ x < fr ∧ ¬ (N : Int) < x ∧ ¬ kd < 1 ∧ 2 < kd := by
              unfold wbad at hbad
              rw [hN.out] at hbad
              simp only [Bool.or_eq_true, decide_eq_true_eq] at hbad
              omega
            clear hbad hst2 hRV3 hn
            rcases hways with h1 | ⟨h1, h2⟩ | ⟨h1, h2, h3⟩ | ⟨h1, h2, h3, h4⟩
            all_goals
              go_wp2
              go_ret2
              exact ⟨_, rfl, hRV4.out, H.bare⟩
          · have hst3 := hst2.out
            rw [if_neg hbad] at hst3
            obtain ⟨g1, g2, g3, g4⟩ := wbad_no (show wbad T.length fr x kd = false by simpa using hbad)
            rw [hN.out] at g2
            obtain ⟨c, rfl⟩ : ∃ n : Nat, x = n := ⟨x.toNat, by omega⟩
            rw [Int.toNat_natCast] at hst3
            have hfc : fr ≤ c := by omega
            have hcN : c ≤ N := by omega
            obtain ⟨lb, hlb⟩ : ∃ b, Hid (((cs.zip ks).drop (i + 1)).isEmpty = b) := ⟨_, rfl⟩
            have hlb1 : ((i : Int) == (M : Int)) = lb := by
              rw [← hlb.out]
              have hzl : ((cs.zip ks).drop (i + 1)).length = M - i := by rw [List.length_drop, List.length_zip, hLc.out, hLk.out]; omega
              by_cases hq : i = M
              · rw [List.eq_nil_of_length_eq_zero (by omega : ((cs.zip ks).drop (i + 1)).length = 0)]; simp [hq]
              · have : ((cs.zip ks).drop (i + 1)) ≠ [] := fun hh => by rw [hh] at hzl; simp at hzl; omega
                rw [show ((cs.zip ks).drop (i + 1)).isEmpty = false by cases hd : (cs.zip ks).drop (i + 1) with
                  | nil => exact absurd hd this
                  | cons _ _ => rfl]
                simp; omega
            rw [hlb.out] at hst3
            obtain ⟨tv, htv⟩ : ∃ tv, Hid (sliced ta fr c tc 3 = tv) := ⟨_, rfl⟩
            have hrd := (HR.out []).sliced hfc hcN
            rw [htv.out] at hrd
            obtain ⟨Q, hQ⟩ : ∃ Q, Hid ((T.take c).drop fr = Q) := ⟨_, rfl⟩
            have hQl : Q.length = c - fr := by rw [← hQ.out, List.length_drop, List.length_take, hN.out]; omega
            have hQo : ∀ t ∈ Q, TokOk t := fun t ht => HOK.out t (List.mem_of_mem_take (List.mem_of_mem_drop (by rw [hQ.out]; exact ht)))
            have hQs := blockB_size hQo (by omega) kd lb
            rw [hQ.out, ← hQl] at hrd
            have kb := fun w1 (h : Own w w1 [Wtr g Bs]) => block_any kd lb hrd hQo (by omega) h (by omega)
            have KB := Lib.hid kb
            rw [hQ.out] at hst3
            obtain ⟨B2, hB2⟩ : ∃ B2, Hid (Bs ++ blockB Q kd lb = B2) := ⟨_, rfl⟩
            have hB2l : B2.length ≤ (i + 1) * 200000 := by rw [← hB2.out, List.length_append]; omega
            rw [hB2.out] at hst3
            replace hst3 := Lib.hid hst3
            have hmc : (c : Int) ≤ (tc : Int) := by omega
            have hkmI : (fr : Int) ≤ (c : Int) := by omega
            have n1 : ¬ (c : Int) < (fr : Int) := by omega
            have n2 : ¬ (N : Int) < (c : Int) := by omega
            have n3 : ¬ kd < 1 := by omega
            have n4 : ¬ 2 < kd := by omega
            clear kb hrd hQo hQs hbad hst2 hlb
            go_upto_region 13 with (fail)
            clear cc1 cc2
            refine wp_region_calm (fun w1 => Own w w1 [Wtr g Bs]) 13 (by kernel_rfl) (by kernel_rfl) H.drew ?_
            simp only [List.take_succ_cons, List.take_zero, List.drop_succ_cons, List.drop_zero]
            iterate 3
              refine calm_value (v := ?_) (by decide) rfl (fun σ w1 hS => ?_) ?_
              rotate_left
              · first | (go_simp; rfl) | rfl
              simp only [Act.put, List.setIfInBounds_toArray, List.set_cons_zero, List.set_cons_succ]
            refine calm_value (v := tv) (by decide) rfl (fun σ w1 hS => ?_) ?_
            · rw [← htv.out]
              go_simp
            simp only [Act.put, List.setIfInBounds_toArray, List.set_cons_zero, List.set_cons_succ]
            repeat
              first
              | (refine calm_value (v := ?_) (by decide) rfl (fun σ w1 hS => ?_) ?_
                 rotate_left
                 · obtain ⟨c0, c1⟩ := HC2.out _ _ hS
                   first | (go_simp; rfl) | rfl
                 simp only [Act.put, List.setIfInBounds_toArray, List.set_cons_zero, List.set_cons_succ])
              | (refine calm_skip (by decide) rfl ?_
                 simp only [Act.put, List.setIfInBounds_toArray, List.set_cons_zero, List.set_cons_succ])
            refine calm_nil ?_
            intro wd HD
            clear H
            go_wp2_with fail
            refine (KB.out _ HD).mono ?_
            rintro e w4 ⟨_, rfl, H⟩
            rw [hB2.out] at H
            clear HD KB hB2
            go_wp2
            go_roundw
            case rel => exact ⟨i + 1, c, B2, rfl, by go_num, by omega, hcN, hB2l, hst3, H⟩
            case measure => simp [intOf]; omega
        · obtain rfl : i = M + 1 := by omega
          have hiI : ¬ (M : Int) + 1 < (M : Int) + 1 := by omega
          have hnil : (cs.zip ks).drop (M + 1) = [] := List.drop_eq_nil_of_le (by rw [List.length_zip, hLc.out, hLk.out]; omega)
          have hst2 := hst.out
          rw [hnil, wloop] at hst2
          have hRV4 : Hid (Value.tuple #[.string (textOf Bs), .int .i64 0] = RV) := Lib.hid (by rw [← hRV3.out, ← hst2]; rfl)
          clear hst hst2 hRV3 hnil
          go_wp2_with fail
          refine (bytes_any H).mono ?_
          rintro e w5 ⟨rfl, rfl⟩
          go_wp2
          go_ret2
          exact ⟨_, rfl, hRV4.out, H.bare⟩
end Go.Proofs.Ytpbodonmiepilaa
/- lz: the walk of the document's Expand. -/
namespace Go.Proofs.Ytpbodonmiepilaa
open Go.RowKit

set_option maxRecDepth 100000 in
set_option maxHeartbeats 3200000 in
theorem refexpand_any {w : World} {v : Value} (l : List Tok) (most : Int) (hR : Rd w 3 v l.length (rows tcell l)) (hl : l.length ≤ 3000) :
    Calls Try.prog 15 #[v, .int .i64 most] w (Ret fun r w' => r = resVal (exp most l []) ∧ Own w w' []) := by
  obtain ⟨R, hRR⟩ : ∃ R, Hid (exp most l [] = R) := ⟨_, rfl⟩
  rw [hRR.out]
  obtain ⟨N, hN⟩ : ∃ N, Hid (l.length = N) := ⟨_, rfl⟩
  rw [hN.out] at hR hl
  have HR := Lib.hid hR
  obtain ⟨a, c, rfl, hc1, hc2⟩ := hR.shape
  clear hR
  have H := (Own.start w).nil 5 1
  go_enter Try.func15, Try.ntmps15
  go_wp2_with fail
  go_loopw [6, 7] (fun s6 s11 wr => ∃ (k : Nat) (out : List Int), s11 = .int .i64 k ∧ k ≤ N ∧ Hid (exp most (l.drop k) out = R) ∧ out.length ≤ 258 * k ∧ Own w wr [slc 5 1 s6 out.length (bcells out)]) (fun _ s11 _ => N - (intOf s11).toNat)
  case atStart => exact ⟨0, [], by simp, by omega, hRR, by simp, H⟩
  case round =>
    clear H
    obtain ⟨k, out, rfl, hk, hex, hol, H⟩ := hrel
    by_cases hkN : k < N
    · have hkI : (k : Int) < (N : Int) := by omega
      obtain ⟨t, ht⟩ : ∃ t, l[k]? = some t := ⟨l[k]'(by rw [hN.out]; exact hkN), List.getElem?_eq_getElem _⟩
      have hdrop : l.drop k = t :: l.drop (k + 1) := by
        obtain ⟨hk', rfl⟩ := List.getElem?_eq_some_iff.1 ht
        exact List.drop_eq_getElem_cons hk'
      have hex' := hex.out
      rw [hdrop, exp] at hex'
      clear hex hdrop
      obtain ⟨b, o, c', he, hc1', hc2', hcell⟩ := HR.out.at (by rw [HR.out.len]; omega)
      cases he
      have HT := Lib.hid ht
      clear ht hcell
      obtain ⟨c1, c2, c3⟩ := tok_cells (HR.out.old H) HT.out
      obtain ⟨x, y, z⟩ := t
      simp only at c1 c2 c3
      obtain ⟨n, hn⟩ : ∃ n, Hid (out.length = n) := ⟨_, rfl⟩
      rw [hn.out] at H hol hex'
      obtain ⟨a', d', rfl, hd1, hd2⟩ := H.rd.shape
      go_upto_region 6 with (refine wpList_store_agg rfl _ _ rfl rfl (H.alloc _) rfl (by kernel_rfl) (by simp) (by simp; exact ⟨rfl, rfl, rfl⟩) rfl ?_; clear H; intro w5 H)
      generalize wr.heap.size = cb at *
      have H : Own w w5 (blk cb (.cells #[.int .i64 x, .int .i64 y, .int .i64 z] 46) :: [slc 5 1 (.slice a' n d') n (bcells out)]) := H
      clear c1 c2 c3
      have c0 := H.cells
      go_wp2_with fail
      refine (may_any ⟨x, y, z⟩ n w5).mono ?_
      rintro e w6 ⟨_, rfl, rfl, H6⟩
      replace H := H.join H6
      have H : Own w w6 (blk cb (.cells #[.int .i64 x, .int .i64 y, .int .i64 z] 46) :: [slc 5 1 (.slice a' n d') n (bcells out)]) := H
      clear H6 c0
      have c0 := H.cells
      obtain ⟨mb, hmb⟩ : ∃ mb, Hid (may ⟨x, y, z⟩ n = mb) := ⟨_, rfl⟩
      rw [hmb.out] at hex' ⊢
      cases mb with
      | false =>
        rw [if_pos rfl] at hex'
        have hfin := Lib.hid hex'
        clear hex'
        go_wp2
        go_ret2
        exact ⟨_, rfl, by rw [← hfin.out]; rfl, H.bare⟩
      | true =>
        rw [if_neg (by simp)] at hex'
        obtain ⟨r, hr⟩ : ∃ r, Hid (IntKind.i64.wrap (most - (n : Int)) = r) := ⟨_, rfl⟩
        have hrw := hr.out
        rw [hrw] at hex'
        obtain ⟨m, rfl⟩ : ∃ m : Nat, x = m := by
          by_cases hx0 : x = 0
          · exact ⟨0, by omega⟩
          · have := may_back hmb.out hx0; exact ⟨x.toNat, by omega⟩
        obtain ⟨d, rfl⟩ : ∃ d : Nat, y = d := by
          by_cases hx0 : (m : Int) = 0
          · have := may_lit hmb.out hx0; exact ⟨0, by omega⟩
          · have := may_back hmb.out hx0; exact ⟨y.toNat, by omega⟩
        have hM : Hid ((m = 0 ∧ d = 0 ∧ 0 ≤ z ∧ z < 256) ∨ (z = 0 ∧ 3 ≤ m ∧ m ≤ 258 ∧ 1 ≤ d ∧ d ≤ n)) := Lib.hid (by
          by_cases hx0 : (m : Int) = 0
          · have := may_lit hmb.out hx0; left; omega
          · have := may_back hmb.out hx0; right; omega)
        have herr : R = .err 12 → ∀ wz, Own w wz [blk cb (.cells #[.int .i64 m, .int .i64 d, .int .i64 z] 46), slc 5 1 (.slice a' n d') n (bcells out)] → ∃ v, Ending.returned (.tuple #[.string ⟨#[]⟩, .int .i64 12]) = .returned v ∧ v = resVal R ∧ Own w wz [] := fun h wz hz => ⟨_, rfl, by rw [h]; rfl, hz.bare⟩
        have HE := Lib.hid herr
        clear herr
        by_cases hm0 : m = 0
        case pos =>
          have hmz : ((m : Int) == 0) = true := by simp [hm0]
          have hm1 : (m : Int) < 1 := by omega
          rw [show max (m : Int) 1 = 1 by omega, if_pos (show (m : Int) = 0 by omega)] at hex'
          by_cases hlim : r < 1
          case' pos =>
            rw [if_pos hlim] at hex'
            have hfin := Lib.hid hex'.symm
            clear hex' hm0
            go_wp2
            go_ret2
            exact HE.out hfin.out _ H
          rw [if_neg hlim] at hex'
          have hwz : IntKind.u8.wrap z = z := by rw [IntKind.wrap_u8]; have := hM.out; omega
          have hE : Hid (exp most (l.drop (k + 1)) (out ++ [z]) = R) := Lib.hid hex'
          have hlen : Hid ((out ++ [z]).length = n + 1) := Lib.hid (by rw [List.length_append, hn.out]; rfl)
          clear hex' hm0 hM hr HE
          go_wp2_with (at_builtin; refine wpList_append_one rfl _ _ rfl Try.underlying54 u8Info rfl (by decide) rfl H.swap (news := [.int .u8 z]) rfl rfl rfl (by simp [Value.oneCell']) (by omega) (by omega) ?_; clear H c0; intro v' w7 H; replace H := H.swap; have c0 := H.cells)
          rw [bcells_snoc] at H
          go_roundw
          case rel =>
            refine ⟨k + 1, out ++ [z], by go_num, by omega, hE, by rw [hlen.out]; omega, ?_⟩
            rw [hlen.out]
            exact H.drop
          case measure => simp [intOf]; omega
        case' neg =>
          have hmz : ((m : Int) == 0) = false := by simp; omega
          have hm1 : ¬ (m : Int) < 1 := by omega
          rw [show max (m : Int) 1 = m by omega, if_neg (show ¬ (m : Int) = 0 by omega)] at hex'
          by_cases hlim : r < m
          case' pos =>
            rw [if_pos hlim] at hex'
            have hfin := Lib.hid hex'.symm
            clear hex' hm0
            go_wp2
            go_ret2
            exact HE.out hfin.out _ H
          rw [if_neg hlim] at hex'
          have hE : Hid (exp most (l.drop (k + 1)) (copyN d out m) = R) := Lib.hid (by simpa using hex')
          have hdn : Hid (m = 0 ∨ (1 ≤ d ∧ d ≤ n)) := Lib.hid (by have := hM.out; omega)
          have hn1 : n + m ≤ 258 * (k + 1) := by have := hM.out; omega
          have hlen : Hid (out.length = n) := hn
          clear hex' hm0 hM hr HE
          go_upto_region 15 with (fail)
          clear hlim
          generalize (Value.slice a' n d') = v' at *
          generalize out = out1 at *
          generalize n = n1 at *
        all_goals
          clear hm1 hmz
          go_wp2_with fail
          go_loopw [6, 10] (fun s6 s39 wr => ∃ j : Nat, s39 = .int .i64 j ∧ j ≤ m ∧ Own w wr [blk cb (.cells #[.int .i64 m, .int .i64 d, .int .i64 z] 46), slc 5 1 s6 (n1 + j) (bcells (copyN d out1 j))]) (fun _ s39 _ => m - (intOf s39).toNat)
          case atStart => exact ⟨0, by simp, by omega, H⟩
          case round =>
            clear H c0
            obtain ⟨j, rfl, hj, H⟩ := hrel
            by_cases hjm : j < m
            · have hjI : (j : Int) < (m : Int) := by omega
              have hd1 : 1 ≤ d := by have := hdn.out; omega
              have hd2 : d ≤ n1 := by have := hdn.out; omega
              have hcl : (copyN d out1 j).length = n1 + j := by rw [copyN_length, hlen.out]
              obtain ⟨L, hL⟩ : ∃ L, Hid (n1 + j = L) := ⟨_, rfl⟩
              rw [hL.out] at H hcl
              have hLb : L ≤ 800000 := by have := hL.out; omega
              obtain ⟨q, hq⟩ : ∃ q, Hid (L - d = q) := ⟨_, rfl⟩
              have hdL : d ≤ L := by have := hL.out; omega
              have hqI : (L : Int) - (d : Int) = (q : Int) := by have := hq.out; omega
              have hqL : q < L := by have := hq.out; omega
              have hqLI : (q : Int) < (L : Int) := by omega
              obtain ⟨x, hx⟩ : ∃ x, (copyN d out1 j)[q]? = some x := ⟨_, List.getElem?_eq_getElem (by omega)⟩
              have hnx : Hid (copyN d out1 (j + 1) = copyN d out1 j ++ [x]) := Lib.hid (by
                rw [copyN, hcl, hq.out, List.getD_eq_getElem?_getD, hx]; rfl)
              have HX := Lib.hid (bcells_get hx)
              clear hx
              obtain ⟨OJ, hOJ⟩ : ∃ OJ, Hid (copyN d out1 j = OJ) := ⟨_, rfl⟩
              rw [hOJ.out] at H HX hnx
              clear hcl
              obtain ⟨gb, cc, rfl, hg1, hg2, _⟩ := H.swap.at (by rw [bcells_length, ← hOJ.out, copyN_length, hlen.out]; have := hL.out; omega)
              have c0 := H.cells
              have c1 := H.swap.rd.cell HX.out
              rw [Nat.zero_add] at c1
              go_wp2_with (at_builtin; refine wpList_append_one rfl _ _ rfl Try.underlying54 u8Info rfl (by decide) rfl H.swap (news := [.int .u8 x]) rfl rfl rfl (by simp [Value.oneCell']) (by omega) (by omega) ?_; clear H c0 c1; intro v' w7 H; replace H := H.swap)
              go_roundw
              case rel =>
                refine ⟨j + 1, by go_num, by omega, ?_⟩
                rw [hnx.out, ← bcells_snoc, ← Nat.add_assoc, hL.out]
                exact H
              case measure => simp [intOf]; omega
            · have hjI : ¬ (j : Int) < (m : Int) := by omega
              have hjm2 : j = m := by omega
              have hcl : (copyN d out1 m).length = n1 + m := by rw [copyN_length, hlen.out]
              rw [hjm2] at H
              have c0 := H.cells
              go_wp2_with fail
              go_roundw
              case rel =>
                refine ⟨k + 1, copyN d out1 m, by go_num, by omega, hE, by omega, ?_⟩
                rw [hcl]
                exact H.drop
              case measure => simp [intOf]; omega
    · have hkI : ¬ (k : Int) < (N : Int) := by omega
      have hfin : Hid (R = .ok out) := Lib.hid (by rw [← hex.out, List.drop_eq_nil_of_le (by rw [hN.out]; omega), exp])
      clear hex
      obtain ⟨a', d', rfl, hd1, hd2⟩ := H.rd.shape
      have hst := run_string_sep (P := Try.prog) 54 9 Try.underlying54 Try.underlying5 Try.underlying9 (ns := out) H.rd
      go_wp2
      go_ret2
      exact ⟨_, rfl, by rw [hfin.out]; rfl, H.bare⟩
end Go.Proofs.Ytpbodonmiepilaa
/- Bits: the document's Left, Take. -/
namespace Go.Proofs.Ytpbodonmiepilaa
open Go.RowKit

/-- The document's reader of a text, n bits taken. -/
def RRdr (g : Nat) (s : ByteArray) (n : Nat) : Piece := blk g (.cells #[.string s, .int .i64 n] 69)
set_option maxHeartbeats 400000 in
theorem rleft_any {w0 w : World} {ps : List Piece} {g : Nat} {s : ByteArray} {n : Nat} (H : Own w0 w (RRdr g s n :: ps)) (hs : s.size ≤ 281474976710656) (hn : n ≤ 2251799813685248) :
    Calls Try.prog 88 #[.pointer (some ⟨g, 0, none⟩)] w fun e w' => e = .returned (.int .i64 (8 * s.size - n)) ∧ Own w0 w' (RRdr g s n :: ps) := by
  unfold RRdr at H ⊢
  obtain ⟨z, hz⟩ : ∃ z, Hid (s.size = z) := ⟨_, rfl⟩
  have hz2 := hz.out
  rw [hz2] at hs ⊢
  have hw : IntKind.i64.wrap (8 * (z : Int)) = 8 * z := IntWalk.i64_in _ ⟨by omega, by omega⟩
  have hw2 : IntKind.i64.wrap (8 * (z : Int) - n) = 8 * z - n := IntWalk.i64_in _ ⟨by omega, by omega⟩
  go_enter Try.func88, Try.ntmps88
  go_upto_region 1 with (fail)
  refine wp_region_calm (fun w1 => Own w0 w1 (blk g (.cells #[.string s, .int .i64 n] 69) :: ps)) 11 (by kernel_rfl) (by kernel_rfl) H.drew ?_
  simp only [List.take_succ_cons, List.take_zero, List.drop_succ_cons, List.drop_zero]
  repeat
    refine calm_value (v := ?_) (by decide) rfl (fun σ w1 hS => ?_) ?_; rotate_left
    · have c0 := hS.cells
      first | (go_simp; rfl) | rfl
    simp only [Act.put, List.setIfInBounds_toArray, List.set_cons_zero, List.set_cons_succ]
  refine calm_nil ?_
  intro wd HD
  go_wp2
  go_ret
  exact ⟨rfl, HD⟩
set_option maxHeartbeats 800000 in
theorem rtake_yes {w0 w : World} {ps : List Piece} {g : Nat} {s : ByteArray} {n : Nat} (m : Nat) (H : Own w0 w (RRdr g s n :: ps)) (hs : s.size ≤ 281474976710656) (hm : m ≤ 62) (hn : n + m ≤ 8 * s.size) :
    Calls Try.prog 62 #[.pointer (some ⟨g, 0, none⟩), .int .i64 m] w (Ret fun v w' => v = .tuple #[.int .i64 (valOf (((textBits s).drop n).take m)), .bool true] ∧ Own w0 w' (RRdr g s (n + m) :: ps)) := by
  obtain ⟨z, hz⟩ : ∃ z, Hid (s.size = z) := ⟨_, rfl⟩
  have hz2 := hz.out
  rw [hz2] at hs hn
  clear hz2
  obtain ⟨bs, hbs⟩ : ∃ bs, Hid ((textBits s).drop n = bs) := ⟨_, rfl⟩
  rw [hbs.out]
  have hbl : Hid (bs.length = 8 * z - n) := Lib.hid (by rw [← hbs.out, List.length_drop, textBits_length, hz.out])
  go_enter Try.func62, Try.ntmps62
  go_wp2_with fail
  refine (rleft_any H (by rw [hz.out]; exact hs) (by omega)).mono ?_
  rintro e w1 ⟨rfl, H1⟩
  rw [hz.out]
  clear H
  have hle : (m : Int) ≤ 8 * (z : Int) - n := by omega
  go_wp2_with fail
  go_loopw [6, 7] (fun x i wx => ∃ k : Nat, ∃ u d : Int, k ≤ m ∧ i = .int .i64 d ∧ Hid (d = (m : Int) - 1 - k) ∧ x = .int .i64 u ∧ Hid (u = valOf ((bs.drop (m - k)).take k)) ∧ Own w0 wx (RRdr g s n :: ps)) (fun _ i _ => (intOf i + 1).toNat)
  case atStart => exact ⟨0, 0, _, Nat.zero_le _, rfl, Lib.hid (by omega), rfl, Lib.hid rfl, H1⟩
  case round =>
    clear H1
    obtain ⟨k, u, d, hk, rfl, hd, rfl, hu, H⟩ := hrel
    unfold RRdr at H
    have c0 := H.cells
    by_cases hlt : k < m
    · obtain ⟨j, hj⟩ : ∃ j, Hid (m - 1 - k = j) := ⟨_, rfl⟩
      obtain rfl : d = (j : Int) := by have := hd.out; have := hj.out; omega
      obtain ⟨p, hp⟩ : ∃ p, Hid (n + j = p) := ⟨_, rfl⟩
      obtain ⟨r, hr⟩ : ∃ r, Hid (r = p % 8) := ⟨_, Lib.hid rfl⟩
      obtain ⟨q, hq⟩ : ∃ q, Hid (q = p / 8) := ⟨_, Lib.hid rfl⟩
      have hp8 : p < 8 * z := by have := hp.out; have := hj.out; omega
      have hj62 : j < 62 := by have := hj.out; omega
      have hpi : (n : Int) + (j : Int) = (p : Int) := by have := hp.out; omega
      have hrt : (p : Int).tmod 8 = (r : Int) := by have := hr.out; rw [Int.tmod_eq_emod_of_nonneg (by omega)]; omega
      have hqt : (p : Int).tdiv 8 = (q : Int) := by have := hq.out; rw [Int.tdiv_eq_ediv_of_nonneg (by omega)]; omega
      have hrt' : (p : Int) % 8 = (r : Int) := by have := hr.out; omega
      have hqt' : (p : Int) / 8 = (q : Int) := by have := hq.out; omega
      have hr8 : r < 8 := by have := hr.out; omega
      have hqs : q < s.size := by have := hz.out; have := hq.out; omega
      have hjl : j < bs.length := by have := hbl.out; have := hj.out; omega
      obtain ⟨b, hb⟩ : ∃ b, Hid (bs[j]? = some b) := ⟨bs[j], Lib.hid (List.getElem?_eq_getElem _)⟩
      have hbb : Hid (bitOf ((s[q].toNat : Nat) : Int) r = b) := Lib.hid (by
        have h1 := textBits_get s hqs hr8
        have h2 := hb.out
        rw [← hbs.out, List.getElem?_drop] at h2
        have e : n + j = 8 * q + r := by have := hp.out; have := hq.out; have := hr.out; omega
        rw [e, h1] at h2
        exact Option.some.inj h2)
      have hx8 := s[q].toNat_lt
      have hand : bits .and .i64 ((s[q].toNat : Int) / 2 ^ r) 1 = bi b := by rw [i64_and1, ← hbb.out, bi_bitOf]
      have hbd := bi_bd b
      obtain ⟨c, hc⟩ : ∃ c, Hid (bi b = c) := ⟨_, rfl⟩
      rw [hc.out] at hand hbd
      obtain ⟨hc0, hc1⟩ := hbd
      have hub := valOf_bd ((bs.drop (m - k)).take k)
      rw [← hu.out, List.length_take_of_le (by have := hbl.out; rw [List.length_drop]; omega)] at hub
      obtain ⟨hu0, hu1⟩ := hub
      have hu2 : u ≤ 2305843009213693951 := by
        have h1 : (2 : Int) ^ k ≤ 2 ^ 61 := pow2_le (by omega)
        have h61 : (2 : Int) ^ 61 = 2305843009213693952 := by decide
        omega
      clear hu1
      go_wp2
      go_round
      case rel => exact ⟨k + 1, 2 * u + c, _, by omega, rfl, Lib.hid (by have := hd.out; omega), rfl, Lib.hid (by
          have e1 : m - (k + 1) = j := by have := hj.out; omega
          have e2 : m - k = j + 1 := by have := hj.out; omega
          have e3 : bs[j] = b := by have := hb.out; rw [List.getElem?_eq_getElem hjl] at this; exact Option.some.inj this
          rw [e1, List.drop_eq_getElem_cons hjl, List.take_succ_cons, e3, valOf, hu.out, hc.out, e2]
          omega), H⟩
      case measure => simp [intOf]
    · have hd0 : d < 0 := by have := hd.out; omega
      obtain rfl : k = m := by omega
      have hnk : Hid ((n : Int) + k = ((n + k : Nat) : Int)) := Lib.hid (by omega)
      go_wp2_with (refine wpList_store_int rfl _ _ rfl rfl H rfl (by kernel_rfl) (by simp) ?_; clear H c0; intro w3 H)
      go_ret2
      refine ⟨.tuple #[.int .i64 u, .bool true], rfl, by rw [hu.out]; simp, ?_⟩
      rw [hnk.out] at H
      simpa [RRdr] using H
set_option maxHeartbeats 800000 in
theorem rtake_no {w0 w : World} {ps : List Piece} {g : Nat} {s : ByteArray} {n : Nat} (m : Int) (hm1 : -9223372036854775808 ≤ m) (hm2 : m ≤ 9223372036854775807) (H : Own w0 w (RRdr g s n :: ps)) (hs : s.size ≤ 281474976710656) (hn : n ≤ 2251799813685248) (hno : m < 0 ∨ 62 < m ∨ 8 * (s.size : Int) - n < m) :
    Calls Try.prog 62 #[.pointer (some ⟨g, 0, none⟩), .int .i64 m] w (Ret fun v w' => v = .tuple #[.int .i64 0, .bool false] ∧ Own w0 w' (RRdr g s n :: ps)) := by
  obtain ⟨z, hz⟩ : ∃ z, Hid (s.size = z) := ⟨_, rfl⟩
  rw [hz.out] at hno
  go_enter Try.func62, Try.ntmps62
  by_cases h1 : m < 0
  · go_wp2
    go_ret2
    exact ⟨_, rfl, rfl, H⟩
  by_cases h2 : 62 < m
  · go_wp2
    go_ret2
    exact ⟨_, rfl, rfl, H⟩
  have h3 : 8 * (z : Int) - n < m := by omega
  clear hno
  go_wp2_with fail
  refine (rleft_any H hs hn).mono ?_
  rintro e w1 ⟨rfl, H1⟩
  rw [hz.out]
  go_wp2
  go_ret2
  exact ⟨_, rfl, rfl, H1⟩
theorem rtake_any {w0 w : World} {ps : List Piece} {g : Nat} {s : ByteArray} {n : Nat} (m : Int) (hm : -9223372036854775808 ≤ m ∧ m ≤ 9223372036854775807) (H : Own w0 w (RRdr g s n :: ps)) (hs : s.size ≤ 1000000) (hn : n ≤ 8 * s.size) :
    Calls Try.prog 62 #[.pointer (some ⟨g, 0, none⟩), .int .i64 m] w (Ret fun v w' => v = .tuple #[.int .i64 (tkV s n m), .bool (decide (tkOk s n m))] ∧ Own w0 w' (RRdr g s (tkN s n m) :: ps)) := by
  by_cases h : tkOk s n m
  · have h' := h
    unfold tkOk at h'
    obtain ⟨k, rfl⟩ : ∃ k : Nat, m = k := ⟨m.toNat, by omega⟩
    have := rtake_yes k H (by omega) (by omega) (by omega)
    simpa [tkV, tkN, h] using this
  · have h' := h
    unfold tkOk at h'
    have := rtake_no m hm.1 hm.2 H (by omega) (by omega) (by omega)
    simpa [tkV, tkN, h] using this
end Go.Proofs.Ytpbodonmiepilaa
/- The document's Reader: Align, Text. -/
namespace Go.Proofs.Ytpbodonmiepilaa
open Go.RowKit

set_option maxHeartbeats 400000 in
theorem rralign_any {w0 w : World} {ps : List Piece} {g : Nat} {s : ByteArray} {n : Nat} (H : Own w0 w (RRdr g s n :: ps)) (hn : n ≤ 2251799813685248) :
    Calls Try.prog 64 #[.pointer (some ⟨g, 0, none⟩)] w (Ret fun _ w' => Own w0 w' (RRdr g s (8 * nbytes n) :: ps)) := by
  unfold RRdr at H
  obtain ⟨z, hz, hz1, hz2⟩ : ∃ z, Hid (8 * nbytes n = z) ∧ n ≤ z ∧ z ≤ n + 7 := ⟨_, Lib.hid rfl, by unfold nbytes; omega, by unfold nbytes; omega⟩
  have hz8 : Hid (z % 8 = 0) := Lib.hid (by have := hz.out; omega)
  go_enter Try.func64, Try.ntmps64
  go_wp2_with fail
  go_loopw [2] (fun _ wx => ∃ k : Nat, n ≤ k ∧ k ≤ z ∧ Own w0 wx (blk g (.cells #[.string s, .int .i64 k] 69) :: ps)) (fun _ wx => z - (intOf ((wx.cell? ⟨g, 1, none⟩).getD undef)).toNat)
  case atStart => exact ⟨n, Nat.le_refl _, hz1, H⟩
  case round =>
    clear H
    obtain ⟨k, hk0, hk, H⟩ := hrel
    have c0 := H.cells
    have hm0 : Hid ((intOf ((wr.cell? ⟨g, 1, none⟩).getD undef)).toNat = k) := Lib.hid (by rw [c0]; simp [intOf])
    by_cases hlt : k < z
    · have hr : ((k : Int) % 8 == 0) = false := by have := hz8.out; have := hz.out; simp; unfold nbytes at this; omega
      have hr2 : ((k : Int).tmod 8 == 0) = false := by rw [Int.tmod_eq_emod_of_nonneg (by omega)]; exact hr
      go_wp2_with (refine wpList_store_int rfl _ _ rfl rfl H rfl (by kernel_rfl) (by simp) ?_; clear H c0; intro w3 H)
      have c0 := H.cells
      simp only [Act.put]
      go_roundw
      case rel => exact ⟨k + 1, by omega, by omega, by simpa using H⟩
      case measure =>
        rw [hm0.out, c0]
        simp [intOf]
        omega
    · obtain rfl : k = z := by omega
      have hr : (k : Int) % 8 = 0 := by have := hz8.out; omega
      have hr2 : (k : Int).tmod 8 = 0 := by rw [Int.tmod_eq_emod_of_nonneg (by omega)]; exact hr
      go_wp2
      go_end0
      rw [hz.out]
      exact ⟨_, rfl, H⟩
set_option maxHeartbeats 400000 in
theorem rrtext_yes {w0 w : World} {ps : List Piece} {g : Nat} {s : ByteArray} {n : Nat} (m : Nat) (H : Own w0 w (RRdr g s n :: ps)) (hs : s.size ≤ 281474976710656) (hm : nbytes n + m ≤ s.size) :
    Calls Try.prog 65 #[.pointer (some ⟨g, 0, none⟩), .int .i64 m] w (Ret fun v w' => v = .tuple #[.string (s.extract (nbytes n) (nbytes n + m)), .bool true] ∧ Own w0 w' (RRdr g s (8 * (nbytes n + m)) :: ps)) := by
  obtain ⟨z, hz⟩ : ∃ z, Hid (s.size = z) := ⟨_, rfl⟩
  obtain ⟨q, hq⟩ : ∃ q, Hid (q = nbytes n) := ⟨_, Lib.hid rfl⟩
  rw [← hq.out] at hm ⊢
  have hmz : q + m ≤ z := by rw [← hz.out]; exact hm
  have hz3 : z ≤ 281474976710656 := by rw [← hz.out]; exact hs
  have hqt : ((n : Int) + 7).tdiv 8 = (q : Int) := by have := hq.out; unfold nbytes at this; rw [Int.tdiv_eq_ediv_of_nonneg (by omega)]; omega
  have hqt' : ((n : Int) + 7) / 8 = (q : Int) := by have := hq.out; unfold nbytes at this; omega
  have hn : n ≤ 2251799813685248 := by have := hq.out; unfold nbytes at this; omega
  have hle : (m : Int) ≤ (s.size : Int) - (q : Int) := by have := hz.out; omega
  have h8 : Hid (8 * ((q : Int) + (m : Int)) = ((8 * (q + m) : Nat) : Int)) := Lib.hid (by omega)
  unfold RRdr at H
  have c0 := H.cells
  go_enter Try.func65, Try.ntmps65
  go_wp2_with (refine wpList_store_int rfl _ _ rfl rfl H rfl (by kernel_rfl) (by simp) ?_; clear H c0; intro w3 H; have c0 := H.cells)
  go_ret2
  refine ⟨_, rfl, rfl, ?_⟩
  rw [h8.out] at H
  simpa [RRdr] using H
set_option maxHeartbeats 400000 in
theorem rrtext_no {w0 w : World} {ps : List Piece} {g : Nat} {s : ByteArray} {n : Nat} (m : Int) (hm1 : -9223372036854775808 ≤ m) (hm2 : m ≤ 9223372036854775807) (H : Own w0 w (RRdr g s n :: ps)) (hs : s.size ≤ 281474976710656) (hn : n ≤ 2251799813685248) (hno : m < 0 ∨ (s.size : Int) - nbytes n < m) :
    Calls Try.prog 65 #[.pointer (some ⟨g, 0, none⟩), .int .i64 m] w (Ret fun v w' => v = .tuple #[.string ByteArray.empty, .bool false] ∧ Own w0 w' (RRdr g s n :: ps)) := by
  obtain ⟨q, hq⟩ : ∃ q, Hid (q = nbytes n) := ⟨_, Lib.hid rfl⟩
  rw [← hq.out] at hno
  have hqt : ((n : Int) + 7).tdiv 8 = (q : Int) := by have := hq.out; unfold nbytes at this; rw [Int.tdiv_eq_ediv_of_nonneg (by omega)]; omega
  have hqt' : ((n : Int) + 7) / 8 = (q : Int) := by have := hq.out; unfold nbytes at this; omega
  have hqb : q ≤ 281474976710656 := by have := hq.out; unfold nbytes at this; omega
  have H0 := H
  unfold RRdr at H
  have c0 := H.cells
  go_enter Try.func65, Try.ntmps65
  by_cases h1 : m < 0
  · go_wp2
    go_ret2
    exact ⟨_, rfl, rfl, H0⟩
  have h2 : (s.size : Int) - (q : Int) < m := by omega
  clear hno
  go_wp2
  go_ret2
  exact ⟨_, rfl, rfl, H0⟩
theorem rrtext_any {w0 w : World} {ps : List Piece} {g : Nat} {s : ByteArray} {n : Nat} (m : Int) (hm : -9223372036854775808 ≤ m ∧ m ≤ 9223372036854775807) (H : Own w0 w (RRdr g s n :: ps)) (hs : s.size ≤ 1000000) (hn : n ≤ 8 * s.size) :
    Calls Try.prog 65 #[.pointer (some ⟨g, 0, none⟩), .int .i64 m] w (Ret fun v w' => v = .tuple #[.string (txV s n m), .bool (decide (txOk s n m))] ∧ Own w0 w' (RRdr g s (txN s n m) :: ps)) := by
  by_cases h : txOk s n m
  · have h' := h
    unfold txOk at h'
    obtain ⟨k, rfl⟩ : ∃ k : Nat, m = k := ⟨m.toNat, by omega⟩
    have := rrtext_yes k H (by omega) (by omega)
    simpa [txV, txN, h] using this
  · have h' := h
    unfold txOk at h'
    have := rrtext_no m hm.1 hm.2 H (by omega) (by omega) (by omega)
    simpa [txV, txN, h] using this
end Go.Proofs.Ytpbodonmiepilaa
/- inflate, the document's: the state; the walks of fault, ran, take. -/
namespace Go.Proofs.Ytpbodonmiepilaa
open Go.RowKit

/-- The document's state: of a text, n bits taken; what there is, the limit, the first fault. -/
def Sta (g rg : Nat) (s : ByteArray) (n : Nat) (out : List Int) (most e : Int) : Piece := ex fun v : Value => ex fun b : Bool =>
  star (blk g (.cells #[.pointer (some ⟨rg, 0, none⟩), v, .int .i64 most, .int .i64 e, .bool b] 67)) (star (slc 5 1 v out.length (bcells out)) (RRdr rg s n))
theorem Own.sta {w0 w : World} {ps : List Piece} {g rg : Nat} {s : ByteArray} {n : Nat} {out : List Int} {most e : Int} (H : Own w0 w (Sta g rg s n out most e :: ps)) :
    ∃ a c b, out.length ≤ c ∧ c ≤ 9223372036854775807 ∧ Own w0 w (blk g (.cells #[.pointer (some ⟨rg, 0, none⟩), .slice a out.length c, .int .i64 most, .int .i64 e, .bool b] 67) :: slc 5 1 (.slice a out.length c) out.length (bcells out) :: RRdr rg s n :: ps) := by
  obtain ⟨v, H⟩ := H.ex
  obtain ⟨b, H⟩ := H.ex
  replace H := H.star
  replace H := (H.front 1 rfl).star
  obtain ⟨a, c, rfl, h1, h2⟩ := H.rd.shape
  exact ⟨a, c, _, h1, h2, (H.front 2 rfl)⟩
theorem Own.unsta {w0 w : World} {ps : List Piece} {g rg : Nat} {s : ByteArray} {n m : Nat} {out : List Int} {most e : Int} {v : Value} {b : Bool} (H : Own w0 w (blk g (.cells #[.pointer (some ⟨rg, 0, none⟩), v, .int .i64 most, .int .i64 e, .bool b] 67) :: slc 5 1 v m (bcells out) :: RRdr rg s n :: ps)) (hm : m = out.length) : Own w0 w (Sta g rg s n out most e :: ps) := by
  subst hm
  refine Own.unex v (Own.unex b (Own.unstar ?_))
  have h := ((H.front 2 rfl).front 2 rfl).unstar
  exact h.swap
/-- The first fault. -/
def fltF (bad : Bool) (x e : Int) : Int := if bad = true ∧ e = 0 then x else e
theorem flt_ne {bad : Bool} {x e : Int} (h : e ≠ 0) : fltF bad x e = e := by unfold fltF; rw [if_neg (by simp [h])]
theorem flt_no {x e : Int} : fltF false x e = e := by unfold fltF; rw [if_neg (by simp)]
theorem flt_yes {x : Int} : fltF true x 0 = x := rfl

set_option maxHeartbeats 800000 in
theorem rfault_any {w0 w : World} {ps : List Piece} {g rg n : Nat} {s : ByteArray} {out : List Int} {most e : Int} (bad : Bool) (x : Int) (H : Own w0 w (Sta g rg s n out most e :: ps)) :
    Calls Try.prog 41 #[.pointer (some ⟨g, 0, none⟩), .bool bad, .int .i64 x] w (Ret fun _ w' => Own w0 w' (Sta g rg s n out most (fltF bad x e) :: ps)) := by
  obtain ⟨a, c, b, h1, h2, H⟩ := H.sta
  have c0 := H.cells
  go_enter Try.func41, Try.ntmps41
  cases bad
  · rw [flt_no]
    go_wp2
    go_end0
    exact ⟨_, rfl, H.unsta rfl⟩
  by_cases h : e = 0
  · have hb : (e == 0) = true := by simp [h]
    have hf : Hid (fltF true x e = x) := Lib.hid (by rw [h]; rfl)
    rw [hf.out]
    clear h
    go_wp2_with (refine wpList_store_int rfl _ _ rfl rfl H rfl (by kernel_rfl) (by simp) ?_; clear H c0; intro w3 H)
    go_end0
    exact ⟨_, rfl, H.unsta rfl⟩
  · have hb : (e == 0) = false := by simp [h]
    rw [flt_ne h]
    go_wp2
    go_end0
    exact ⟨_, rfl, H.unsta rfl⟩
set_option maxHeartbeats 800000 in
theorem rran_any {w0 w : World} {ps : List Piece} {g rg n : Nat} {s : ByteArray} {out : List Int} {most e : Int} (bad : Bool) (H : Own w0 w (Sta g rg s n out most e :: ps)) :
    Calls Try.prog 63 #[.pointer (some ⟨g, 0, none⟩), .bool bad] w (Ret fun _ w' => Own w0 w' (Sta g rg s n out most (fltF bad 2 e) :: ps)) := by
  obtain ⟨a, c, b, h1, h2, H⟩ := H.sta
  have c0 := H.cells
  go_enter Try.func63, Try.ntmps63
  cases bad
  · rw [flt_no]
    go_wp2
    go_end0
    exact ⟨_, rfl, H.unsta rfl⟩
  by_cases h : e = 0
  · have hb : (e == 0) = true := by simp [h]
    have hf : Hid (fltF true 2 e = 2) := Lib.hid (by rw [h]; rfl)
    rw [hf.out]
    clear h
    go_wp2_with (first
      | (refine wpList_store_int rfl _ _ rfl rfl H rfl (by kernel_rfl) (by simp) ?_; clear H c0; intro w3 H)
      | (refine wpList_store_bool rfl _ _ rfl rfl H rfl (by kernel_rfl) (by simp) ?_; clear H; intro w4 H))
    go_end0
    exact ⟨_, rfl, H.unsta rfl⟩
  · have hb : (e == 0) = false := by simp [h]
    rw [flt_ne h]
    go_wp2
    go_end0
    exact ⟨_, rfl, H.unsta rfl⟩
set_option maxHeartbeats 800000 in
theorem rtake_tk {w0 w : World} {ps : List Piece} {g rg n : Nat} {s : ByteArray} {out : List Int} {most : Int} (k : Nat) (hk : k ≤ 16) (H : Own w0 w (Sta g rg s n out most 0 :: ps)) (hs : s.size ≤ 1000000) (hn : n ≤ 8 * s.size) :
    Calls Try.prog 40 #[.pointer (some ⟨g, 0, none⟩), .int .i64 k] w (Ret fun r w' => r = .int .i64 (tkV s n k) ∧ Own w0 w' (Sta g rg s (tkN s n k) out most (tkE s n k 0) :: ps)) := by
  obtain ⟨a, c, b, h1, h2, H⟩ := H.sta
  have c0 := H.cells
  obtain ⟨B, hB⟩ : ∃ B, Hid (decide (tkOk s n (k : Int)) = B) := ⟨_, rfl⟩
  have hE : tkE s n k 0 = fltF (!B) 2 0 := by
    rw [← hB.out]
    unfold tkE
    by_cases ho : tkOk s n (k : Int)
    · rw [if_pos ho, decide_eq_true ho]; rfl
    · rw [if_neg ho, decide_eq_false ho]; rfl
  rw [hE]
  generalize hV : tkV s n k = V at *
  generalize hM : tkN s n k = M at *
  have HT := Lib.hid (rtake_any (g := rg) k (by omega) H.rot3' hs hn)
  rw [hV, hM, hB.out] at HT
  clear hV hM hE
  go_enter Try.func40, Try.ntmps40
  go_wp2_with fail
  refine HT.out.mono ?_
  rintro e w1 ⟨_, rfl, rfl, H1⟩
  clear HT H c0
  have H := H1.rot3
  clear H1
  have HH := Lib.hid (rran_any (g := g) (rg := rg) (!B) (H.unsta rfl))
  clear hB
  go_wp2_with fail
  refine HH.out.mono ?_
  rintro e w2 ⟨_, rfl, H2⟩
  go_wp2
  go_ret
  exact ⟨_, rfl, rfl, H2⟩
end Go.Proofs.Ytpbodonmiepilaa
/- huff: the walk of the document's Weight. -/
namespace Go.Proofs.Ytpbodonmiepilaa
open Go.RowKit

set_option maxHeartbeats 800000 in
theorem rweight_any {w : World} {v : Value} {n : Nat} {F : List Int} (hr : Rd w 1 v n (nums F)) (hn : n ≤ 1000000) (hF : ∀ x ∈ F, 0 ≤ x ∧ x ≤ 15) :
    Calls Try.prog 92 #[v] w (Ret fun r w' => r = .int .i64 (sumF wtF F) ∧ Own w w' []) := by
  have hl := Lib.hid (rd_len hr)
  obtain ⟨a, c, rfl, hc1, hc2⟩ := hr.shape
  have HR := Lib.hid hr
  have HF := Lib.hid hF
  have H := Own.start w
  obtain ⟨Z, hZ⟩ : ∃ Z, Hid (sumF wtF F = Z) := ⟨_, rfl⟩
  rw [hZ.out]
  clear hr hF
  go_enter Try.func92, Try.ntmps92
  go_wp2_with fail
  go_loopw [3, 4] (fun s3 s4 wx => ∃ i : Nat, s4 = .int .i64 i ∧ i ≤ n ∧ s3 = .int .i64 (sumF wtF (F.take i)) ∧ Own w wx []) (fun _ s4 _ => n - (intOf s4).toNat)
  case atStart => exact ⟨0, by go_num, by omega, by simp [sumF], H⟩
  case round =>
    clear H
    obtain ⟨i, rfl, hi, rfl, H⟩ := hrel
    have hb := sum_bounds (f := wtF) (F := F.take i) (B := 16384) (fun x hx => wtF_bounds (HF.out x (List.mem_of_mem_take hx)))
    have hll : (F.take i).length ≤ 1000000 := by rw [List.length_take]; omega
    have hb1 : 0 ≤ sumF wtF (F.take i) := hb.1
    have hb2 : sumF wtF (F.take i) ≤ 16384000000 := by have := hb.2; omega
    clear hb hll
    by_cases hlt : i < n
    · have hs := sum_take_succ (f := wtF) (F := F) (i := i) (by have := hl.out; omega)
      have hx := HF.out (F.getD i 0) (by
        rw [List.getD_eq_getElem?_getD, List.getElem?_eq_getElem (by have := hl.out; omega)]
        exact List.getElem_mem _)
      obtain ⟨b, o, rfl, c1⟩ := rd_at HR.out H hlt
      generalize F.getD i 0 = x at *
      obtain ⟨q, hq⟩ : ∃ q, Hid (sumF wtF (F.take i) = q) := ⟨_, rfl⟩
      have hI : (i : Int) < (n : Int) := by omega
      obtain ⟨m, rfl⟩ : ∃ m : Nat, x = m := ⟨x.toNat, by omega⟩
      rw [hq.out] at hb1 hb2 hs ⊢
      have hwb := wtF_bounds hx
      by_cases hpos : 0 < (m : Int)
      · have hw : wtF m = 2 ^ (15 - m) := by unfold wtF; rw [if_pos hpos]; rfl
        have hd : IntKind.i64.wrap (15 - (m : Int)) = ((15 - m : Nat) : Int) := by rw [IntWalk.i64_in _ ⟨by omega, by omega⟩]; omega
        obtain ⟨d, hd2⟩ : ∃ d, d = 15 - m := ⟨_, rfl⟩
        rw [← hd2] at hd hw
        rw [hw] at hs hwb
        obtain ⟨p, hp⟩ : ∃ p : Int, (2 : Int) ^ d = p := ⟨_, rfl⟩
        rw [hp] at hs hwb
        have hd15 : min d 64 = d := by omega
        clear hw hd2
        have HP := Lib.hid hp
        clear hp
        have hsw : wrap64 (q + p) = q + p := IntWalk.wrap64_in _ ⟨by omega, by omega⟩
        have hpw : wrap64 ((2 : Int) ^ min d 64) = p := by rw [hd15, HP.out]; exact IntWalk.wrap64_in _ ⟨by omega, by omega⟩
        have HS := Lib.hid hs
        clear hs hd15
        go_wp2_with fail
        go_roundw
        case rel => exact ⟨i + 1, by go_num, by omega, by rw [HS.out], H⟩
        case measure => simp [intOf]; omega
      · have hw : wtF m = 0 := by unfold wtF; rw [if_neg hpos]
        rw [hw, Int.add_zero] at hs
        have HS := Lib.hid hs
        clear hs hw
        go_wp2_with fail
        go_roundw
        case rel => exact ⟨i + 1, by go_num, by omega, by rw [HS.out], H⟩
        case measure => simp [intOf]; omega
    · obtain rfl : i = n := by omega
      have e : Hid (F.take i = F) := Lib.hid (List.take_of_length_le (by have := hl.out; omega))
      rw [e.out, hZ.out] at hb1 hb2 ⊢
      go_wp2
      go_ret
      exact ⟨_, rfl, rfl, H⟩
end Go.Proofs.Ytpbodonmiepilaa
/- huff: the walk of the document's May. -/
namespace Go.Proofs.Ytpbodonmiepilaa
open Go.RowKit

set_option maxHeartbeats 800000 in
theorem rmay_any {w : World} {v : Value} {n : Nat} {F : List Int} (hr : Rd w 1 v n (nums F)) (hn : n ≤ 1000000) :
    Calls Try.prog 91 #[v] w (Ret fun r w' => r = .bool (mayF F) ∧ Own w w' []) := by
  have hl := Lib.hid (rd_len hr)
  obtain ⟨a, c, rfl, hc1, hc2⟩ := hr.shape
  have HR := Lib.hid hr
  have H := Own.start w
  obtain ⟨Z, hZ⟩ : ∃ Z, Hid (mayF F = Z) := ⟨_, rfl⟩
  rw [hZ.out]
  clear hr
  go_enter Try.func91, Try.ntmps91
  go_wp2_with fail
  go_loopw [3] (fun s3 wx => ∃ i : Nat, s3 = .int .i64 i ∧ i ≤ n ∧ i ≤ 321 ∧ Hid ((F.take i).all okLen = true) ∧ Own w wx []) (fun s3 _ => n - (intOf s3).toNat)
  case atStart => exact ⟨0, by go_num, by omega, by omega, Lib.hid rfl, H⟩
  case round =>
    clear H
    obtain ⟨i, rfl, hi, hi2, hal, H⟩ := hrel
    by_cases hlt : i < n
    · have hI : (i : Int) < (n : Int) := by omega
      by_cases h320 : i ≤ 320
      · have h320I : (i : Int) ≤ 320 := by omega
        have hs := all_take_succ (p := okLen) (F := F) (i := i) (by have := hl.out; omega)
        obtain ⟨b, o, rfl, c1⟩ := rd_at HR.out H hlt
        have hbad : okLen (F.getD i 0) = false → Hid (Z = false) := fun h => Lib.hid (by
          rw [← hZ.out]
          unfold mayF
          have : F.all okLen = false := by
            rw [List.all_eq_false]
            refine ⟨F.getD i 0, ?_, by rw [h]; simp⟩
            rw [List.getD_eq_getElem?_getD, List.getElem?_eq_getElem (by have := hl.out; omega)]
            exact List.getElem_mem _
          rw [this, Bool.and_false])
        rw [hal.out, Bool.true_and] at hs
        generalize F.getD i 0 = x at *
        by_cases h0 : x < 0
        · have e := hbad (by simp [okLen]; omega)
          clear hs hbad
          go_wp2
          go_ret
          exact ⟨_, rfl, by rw [e.out]; rfl, H⟩
        · by_cases h15 : 15 < x
          · have e := hbad (by simp [okLen]; omega)
            clear hs hbad
            go_wp2
            go_ret
            exact ⟨_, rfl, by rw [e.out]; rfl, H⟩
          · have e : Hid ((F.take (i + 1)).all okLen = true) := Lib.hid (by rw [hs]; simp [okLen]; omega)
            clear hs hbad
            go_wp2_with fail
            go_roundw
            case rel => exact ⟨i + 1, by go_num, by omega, by omega, e, H⟩
            case measure => simp [intOf]; omega
      · have h320I : ¬ (i : Int) ≤ 320 := by omega
        have e : Hid (Z = false) := Lib.hid (by
          rw [← hZ.out]; unfold mayF
          have := hl.out
          rw [decide_eq_false (by omega), Bool.false_and])
        have hn2 : ¬ (n : Int) ≤ 320 := by omega
        go_wp2
        go_ret
        exact ⟨_, rfl, by rw [e.out]; rfl, H⟩
    · obtain rfl : i = n := by omega
      have hI : ¬ (i : Int) < (i : Int) := by omega
      have e : Hid (Z = decide (i ≤ 320)) := Lib.hid (by
        rw [← hZ.out]; unfold mayF
        have h1 := hal.out
        rw [List.take_of_length_le (by have := hl.out; omega)] at h1
        rw [h1, Bool.and_true, hl.out])
      by_cases h320 : i ≤ 320
      · have h320I : (i : Int) ≤ 320 := by omega
        have e2 : Hid (Z = true) := Lib.hid (by rw [e.out]; simp [h320])
        go_wp2
        go_ret
        exact ⟨_, rfl, by rw [e2.out]; rfl, H⟩
      · have h320I : ¬ (i : Int) ≤ 320 := by omega
        have e2 : Hid (Z = false) := Lib.hid (by rw [e.out]; simp [h320])
        go_wp2
        go_ret
        exact ⟨_, rfl, by rw [e2.out]; rfl, H⟩
end Go.Proofs.Ytpbodonmiepilaa
/- huff: the walk of the document's Codes. -/
namespace Go.Proofs.Ytpbodonmiepilaa
open Go.RowKit


set_option maxRecDepth 100000 in
set_option maxHeartbeats 6400000 in
theorem rcodes_any {w : World} {v : Value} {n : Nat} {F : List Int} (hr : Rd w 1 v n (nums F)) (hn : n ≤ 1000000) :
    Calls Try.prog 89 #[v] w (Ret fun r w' => ∃ ov, r = .tuple #[ov, .int .i64 (cerrF F)] ∧ Own w w' [slc 3 1 ov (cresF F).length (nums (cresF F))]) := by
  have hl := Lib.hid (rd_len hr)
  obtain ⟨a, c, rfl, hc1, hc2⟩ := hr.shape
  have HR := Lib.hid hr
  obtain ⟨er, her⟩ : ∃ er, Hid (cerrF F = er) := ⟨_, rfl⟩
  obtain ⟨R, hRes⟩ : ∃ R, Hid (cresF F = R) := ⟨_, rfl⟩
  rw [her.out, hRes.out]
  obtain ⟨RL, hRL⟩ : ∃ RL, Hid (R.length = RL) := ⟨_, rfl⟩
  rw [hRL.out]
  obtain ⟨Z, hZ⟩ : ∃ Z, Hid (mayF F = Z) := ⟨_, rfl⟩
  have HC := Lib.hid (rmay_any hr hn)
  rw [hZ.out] at HC
  have hnil : er ≠ 0 → R = [] ∧ RL = 0 := fun h => by
    have : R = [] := by rw [← hRes.out]; unfold cresF; rw [her.out, if_neg h]
    exact ⟨this, by rw [← hRL.out, this]; rfl⟩
  have HNIL := Lib.hid hnil
  have HW := Lib.hid (fun (h : ∀ x ∈ F, 0 ≤ x ∧ x ≤ 15) w' (h1 : Own w w' []) => rweight_any (hr.old h1) hn h)
  clear hnil hr
  go_enter Try.func89, Try.ntmps89
  go_wp2_with fail
  refine HC.out.mono ?_
  rintro e w1 ⟨_, rfl, rfl, H⟩
  clear HC
  cases Z with
  | false =>
    have e1 : Hid (er = 1) := Lib.hid (by rw [← her.out]; unfold cerrF; rw [hZ.out]; rfl)
    obtain ⟨e2, e3⟩ := HNIL.out (by rw [e1.out]; decide)
    subst e3
    have E2 := Lib.hid e2
    clear e2
    go_wp2_with fail
    go_ret2
    refine ⟨_, rfl, _, by rw [e1.out]; rfl, ?_⟩
    rw [E2.out]
    exact H.bare.nil 3 1
  | true =>
    have hm := mayF_len hZ.out
    have HF := Lib.hid hm.2
    have hn3 : n ≤ 320 := by have := hm.1; have := hl.out; omega
    have HW2 := Lib.hid (HW.out hm.2 w1 H)
    obtain ⟨wt, hwt⟩ : ∃ wt, Hid (sumF wtF F = wt) := ⟨_, rfl⟩
    rw [hwt.out] at HW2
    clear hm HW
    by_cases hw : wt ≤ 32768
    · have e1 : Hid (er = 0) := Lib.hid (by rw [← her.out]; unfold cerrF; rw [hZ.out, if_pos rfl, hwt.out, if_pos (show wt ≤ 2 ^ 15 by omega)])
      have e2 : Hid (codesF F = R) := Lib.hid (by rw [← hRes.out]; unfold cresF; rw [her.out, e1.out]; rfl)
      have hRl : n = RL := by rw [← hRL.out, ← e2.out, codesF_length]; exact hl.out.symm
      subst hRl
      have hwI : ¬ (32768 : Int) < wt := by omega
      go_wp2_with fail
      refine HW2.out.mono ?_
      rintro e w2 ⟨_, rfl, rfl, H1⟩
      have H := (H.join H1).nil 3 1
      clear H1 HW2
      go_wp2_with fail
      go_loopw [4, 5] (fun s4 s5 wx => ∃ s : Nat, s5 = .int .i64 s ∧ s ≤ n ∧ Own w wx [slc 3 1 s4 s (nums ((codesF F).take s))]) (fun _ s5 _ => n - (intOf s5).toNat)
      case atStart => exact ⟨0, by go_num, by omega, by simpa [nums] using H⟩
      case round =>
        clear H
        obtain ⟨s, rfl, hs, H⟩ := hrel
        by_cases hlt : s < n
        · have hsI : (s : Int) < (n : Int) := by omega
          have hsl : s < F.length := by have := hl.out; omega
          obtain ⟨b, o, rfl, c1⟩ := rd_at HR.out H hlt
          have hy := HF.out (F.getD s 0) (by
            rw [List.getD_eq_getElem?_getD, List.getElem?_eq_getElem hsl]
            exact List.getElem_mem _)
          have hct := codes_take_succ hsl
          by_cases h0 : F.getD s 0 = 0
          · have hcode : codeF F s = 0 := by unfold codeF; rw [if_neg (by omega)]
            rw [hcode] at hct
            have hst : nums ((codesF F).take s) ++ [.int .i64 0] = nums ((codesF F).take (s + 1)) := by rw [hct]; simp [nums]
            have HST := Lib.hid hst
            rw [h0] at c1
            clear hst hct hcode h0 hy
            go_wp2_with (at_builtin; refine wpList_append_one rfl _ _ rfl Try.underlying22 intInfo rfl (by decide) rfl H (news := [.int .i64 0]) rfl rfl rfl (by simp [Value.oneCell']) (by omega) (by omega) ?_; clear H c1; intro v' w' H; rw [HST.out] at H)
            go_roundw
            case rel => exact ⟨s + 1, by go_num, by omega, H⟩
            case measure => simp [intOf]; omega
          · have hpos : 0 < F.getD s 0 := by omega
            have hsh := bef_shift HF.out hsl hpos
            obtain ⟨m, hm⟩ : ∃ m : Nat, F.getD s 0 = m := ⟨(F.getD s 0).toNat, by omega⟩
            have hst : nums ((codesF F).take s) ++ [.int .i64 (codeF F s)] = nums ((codesF F).take (s + 1)) := by rw [hct]; simp [nums]
            have HST := Lib.hid hst
            have hm1 : 1 ≤ m := by omega
            have hm2 : m ≤ 15 := by omega
            have HM := Lib.hid hm
            rw [hm] at c1 hsh
            rw [Int.toNat_natCast, hl.out] at hsh
            have HSH := Lib.hid hsh
            have hmz : ((m : Int) == 0) = false := by simp; omega
            clear hst hct h0 hy hpos hm hsh
            go_wp2_with fail
            go_loopw [6, 7] (fun s6 s7 wx => ∃ t : Nat, s7 = .int .i64 t ∧ t ≤ n ∧ s6 = .int .i64 (befN F s t) ∧ Own w wx [slc 3 1 u4 s (nums ((codesF F).take s))]) (fun _ s7 _ => n - (intOf s7).toNat)
            case atStart => exact ⟨0, by go_num, by omega, by simp [befN], H⟩
            case round =>
              clear H c1
              obtain ⟨t, rfl, ht, rfl, H⟩ := hrel
              by_cases htn : t < n
              · have htI : (t : Int) < (n : Int) := by omega
                have g : ∀ (ps' : List Piece) (w' : World), Own w w' ps' → w'.cell? ⟨b, o + s, none⟩ = some (.int .i64 m) ∧ w'.cell? ⟨b, o + t, none⟩ = some (.int .i64 (F.getD t 0)) := fun ps' w' h => by
                  obtain ⟨b1, o1, he, h1⟩ := rd_at HR.out h hlt
                  obtain ⟨b2, o2, he2, h2⟩ := rd_at HR.out h htn
                  cases he; cases he2
                  rw [HM.out] at h1
                  exact ⟨h1, h2⟩
                have hbl : Hid (befN F s (t + 1) = befN F s t + befT F s t) := Lib.hid rfl
                have hbt : befT F s t = if 0 < F.getD t 0 ∧ (F.getD t 0 < (m : Int) ∨ F.getD t 0 = (m : Int) ∧ t < s) then 2 ^ (15 - (F.getD t 0).toNat) else 0 := by unfold befT; rw [HM.out]
                have hx := HF.out (F.getD t 0) (by
                  rw [List.getD_eq_getElem?_getD, List.getElem?_eq_getElem (by have := hl.out; omega)]
                  exact List.getElem_mem _)
                have hbb := befN_bounds (l := F) HF.out s t
                have hbb2 := befT_bounds (l := F) HF.out s t
                generalize F.getD t 0 = x at *
                generalize befT F s t = z at *
                obtain ⟨q, hq⟩ : ∃ q, Hid (befN F s t = q) := ⟨_, rfl⟩
                rw [hq.out] at hbb hbl ⊢
                obtain ⟨bb, hbbE⟩ : ∃ bb, decide (0 < x ∧ (x < (m : Int) ∨ x = (m : Int) ∧ t < s)) = bb := ⟨_, rfl⟩
                have HBB := Lib.hid hbbE
                have G := Lib.hid g
                have HBT := Lib.hid hbt
                clear g hbt hbbE
                go_upto_region 15 with (fail)
                go_cut [65] (fun s65 wx => s65 = .bool bb ∧ Own w wx [slc 3 1 u4 s (nums ((codesF F).take s))])
                case first =>
                  have hb := HBB.out
                  by_cases g1 : 0 < x
                  case' neg =>
                    have e : Hid (bb = false) := Lib.hid (by rw [← hb]; simp; omega)
                  case' pos =>
                    by_cases g2 : x < (m : Int)
                    case' pos =>
                      have e : Hid (bb = true) := Lib.hid (by rw [← hb]; simp; omega)
                    case' neg =>
                      by_cases g3 : x = (m : Int)
                      case' neg =>
                        have g4 : (x == (m : Int)) = false := by simp; omega
                        have e : Hid (bb = false) := Lib.hid (by rw [← hb]; simp; omega)
                      case' pos =>
                        have g4 : ((m : Int) == (m : Int)) = true := by simp
                        subst g3
                        have hmp : 0 < m := by omega
                        by_cases g5 : t < s
                        case' pos =>
                          have g5I : (t : Int) < (s : Int) := by omega
                          have e : Hid (bb = true) := Lib.hid (by rw [← hb]; simp; omega)
                        case' neg =>
                          have g5I : ¬ (t : Int) < (s : Int) := by omega
                          have e : Hid (bb = false) := Lib.hid (by rw [← hb]; simp; omega)
                  all_goals
                    clear hb
                    refine wp_region_calm (fun w1 => Own w w1 [slc 3 1 u4 s (nums ((codesF F).take s))]) 31 (by kernel_rfl) (by kernel_rfl) H.drew ?_
                    simp only [List.take_succ_cons, List.take_zero, List.drop_succ_cons, List.drop_zero]
                    repeat
                      first
                      | (refine calm_value (v := ?_) (by decide) rfl (fun σ w1 hS => ?_) ?_
                         rotate_left
                         · obtain ⟨c0, c1⟩ := G.out _ _ hS
                           first | (go_simp; rfl) | rfl
                         simp only [Act.put, List.setIfInBounds_toArray, List.set_cons_zero, List.set_cons_succ])
                      | (refine calm_skip (by decide) rfl ?_
                         simp only [Act.put, List.setIfInBounds_toArray, List.set_cons_zero, List.set_cons_succ])
                    refine calm_nil ?_
                    intro wd HD
                    go_wp2_with fail
                    go_meet
                    exact ⟨by rw [e.out]; try rfl, HD⟩
                case rest =>
                  clear H
                  obtain ⟨rfl, H⟩ := hcut
                  obtain ⟨c0, c1⟩ := G.out _ _ H
                  cases bb with
                  | true =>
                    obtain ⟨k, rfl⟩ : ∃ k : Nat, x = k := ⟨x.toNat, by omega⟩
                    have hd : IntKind.i64.wrap (15 - (k : Int)) = ((15 - k : Nat) : Int) := by rw [IntWalk.i64_in _ ⟨by omega, by omega⟩]; omega
                    obtain ⟨d, hd2⟩ : ∃ d, d = 15 - k := ⟨_, rfl⟩
                    rw [← hd2] at hd
                    have hd15 : min d 64 = d := by omega
                    have HBT2 : Hid ((2 : Int) ^ d = z) := Lib.hid (by
                      have hb := HBB.out
                      have hbt := HBT.out
                      rw [if_pos (by simpa using hb), Int.toNat_natCast, ← hd2] at hbt
                      exact hbt.symm)
                    clear hd2
                    have hsw : wrap64 (q + z) = q + z := IntWalk.wrap64_in _ ⟨by omega, by omega⟩
                    have hpw : wrap64 ((2 : Int) ^ min d 64) = z := by rw [hd15, HBT2.out]; exact IntWalk.wrap64_in _ ⟨by omega, by omega⟩
                    clear hd15 hbb hbb2 hx
                    go_wp2_with fail
                    go_roundw
                    case rel => exact ⟨t + 1, by go_num, by omega, by rw [hbl.out]; exact val_int hsw, H⟩
                    case measure => simp [intOf]; omega
                  | false =>
                    have hz0 : z = 0 := by
                      have hb := HBB.out
                      have hbt := HBT.out
                      rw [if_neg (by simpa using hb)] at hbt
                      exact hbt
                    have hbl2 : Hid (befN F s (t + 1) = q) := Lib.hid (by rw [hbl.out, hz0, Int.add_zero])
                    clear hz0 hbl
                    go_wp2_with fail
                    go_roundw
                    case rel => exact ⟨t + 1, by go_num, by omega, by rw [hbl2.out], H⟩
                    case measure => simp [intOf]; omega
              · obtain rfl : t = n := by omega
                have htI : ¬ (t : Int) < (t : Int) := by omega
                obtain ⟨b1, o1, he, c1⟩ := rd_at HR.out H hlt
                cases he
                rw [HM.out] at c1
                have hbb := befN_bounds (l := F) HF.out s t
                have hd : IntKind.i64.wrap (15 - (m : Int)) = ((15 - m : Nat) : Int) := by rw [IntWalk.i64_in _ ⟨by omega, by omega⟩]; omega
                obtain ⟨q, hq⟩ : ∃ q, Hid (befN F s t = q) := ⟨_, rfl⟩
                rw [hq.out] at hbb HSH ⊢
                obtain ⟨d, hd2⟩ : ∃ d, d = 15 - m := ⟨_, rfl⟩
                rw [← hd2] at hd HSH
                have hd63 : d < 64 := by omega
                have hdI : (d : Int) < 64 := by omega
                clear hd2 hbb hs hm1 hm2
                go_wp2_with (at_builtin; rw [HSH.out]; refine wpList_append_one rfl _ _ rfl Try.underlying22 intInfo rfl (by decide) rfl H (news := [.int .i64 (codeF F s)]) rfl rfl rfl (by simp [Value.oneCell']) (by omega) (by omega) ?_; clear H c1; intro v' w' H; rw [HST.out] at H)
                go_roundw
                case rel => exact ⟨s + 1, by go_num, by omega, H⟩
                case measure => simp [intOf]; omega
        · obtain rfl : s = n := by omega
          have hsI : ¬ (s : Int) < (s : Int) := by omega
          rw [List.take_of_length_le (by rw [codesF_length]; have := hl.out; omega), e2.out] at H
          go_wp2_with fail
          go_ret2
          exact ⟨_, rfl, _, by rw [e1.out]; rfl, H⟩
    · have e1 : Hid (er = 2) := Lib.hid (by rw [← her.out]; unfold cerrF; rw [hZ.out, if_pos rfl, hwt.out, if_neg (show ¬ wt ≤ 2 ^ 15 by omega)])
      obtain ⟨e2, e3⟩ := HNIL.out (by rw [e1.out]; decide)
      subst e3
      have E2 := Lib.hid e2
      have hwI : (32768 : Int) < wt := by omega
      clear e2
      go_wp2_with fail
      refine HW2.out.mono ?_
      rintro e w2 ⟨_, rfl, rfl, H1⟩
      have H := (H.join H1)
      clear H1 HW2
      go_wp2_with fail
      go_ret2
      refine ⟨_, rfl, _, by rw [e1.out]; rfl, ?_⟩
      rw [E2.out]
      exact H.bare.nil 3 1
end Go.Proofs.Ytpbodonmiepilaa
/- huff: the walks of the document's Find and Decode. -/
namespace Go.Proofs.Ytpbodonmiepilaa
open Go.RowKit

set_option maxRecDepth 100000 in
set_option maxHeartbeats 6400000 in
theorem find_any {w0 w : World} {ps : List Piece} {rg n m : Nat} {l : List Int} {s : ByteArray} {v u : Value} (hall : ∀ x ∈ l, 0 ≤ x ∧ x ≤ 15) (hm : l.length = m) (hm2 : m ≤ 1000000) (hs : s.size ≤ 281474976710656) (hn : n ≤ 8 * s.size)
    (hrd : ∀ k wz, Own w0 wz (RRdr rg s k :: ps) → Rd wz 1 v m (nums l) ∧ Rd wz 1 u m (nums (codesF l)))
    (H : Own w0 w (RRdr rg s n :: ps)) :
    Calls Try.prog 90 #[v, u, .pointer (some ⟨rg, 0, none⟩)] w (Ret fun r w' => r = .tuple #[.int .i64 (decF l ((textBits s).drop n)).1, .int .i64 (decF l ((textBits s).drop n)).2.1] ∧ Own w0 w' (RRdr rg s (n + (decF l ((textBits s).drop n)).2.2) :: ps)) := by
  obtain ⟨h1, h2⟩ := hrd _ _ H
  obtain ⟨va, vc, rfl, hv1, hv2⟩ := h1.shape
  obtain ⟨ua, uc, rfl, hu1, hu2⟩ := h2.shape
  obtain ⟨bs, hbs⟩ : ∃ bs, Hid ((textBits s).drop n = bs) := ⟨_, rfl⟩
  rw [hbs.out]
  have hbl : Hid (bs.length = 8 * s.size - n) := Lib.hid (by rw [← hbs.out, List.length_drop, textBits_length])
  obtain ⟨x1, x2, x3, hD⟩ : ∃ x1 x2 x3, Hid (decF l bs = (x1, x2, x3)) := ⟨_, _, _, rfl⟩
  rw [hD.out]
  have HALL := Lib.hid hall
  have HRD := Lib.hid hrd
  have HM := Lib.hid hm
  clear hall hrd h1 h2 hm
  go_enter Try.func90, Try.ntmps90
  go_wp2_with fail
  go_loopw [8, 9] (fun s8 s9 wx => ∃ (i : Nat) (c : Int) (y : Int × Int × Nat), s9 = .int .i64 ((i : Int) + 1) ∧ s8 = .int .i64 c ∧ i ≤ 15 ∧ i ≤ bs.length ∧ 0 ≤ c ∧ Hid (c < 2 ^ i) ∧ Hid (lowF l i + cntC l i ≤ c) ∧ Hid (decN l (15 - i) i c (bs.drop i) = y) ∧ Hid (y.1 = x1 ∧ y.2.1 = x2 ∧ i + y.2.2 = x3) ∧ Own w0 wx (RRdr rg s (n + i) :: ps)) (fun _ s9 _ => 16 - (intOf s9).toNat)
  case atStart =>
    exact ⟨0, 0, _, by go_num, by go_num, by omega, by omega, by omega, Lib.hid (by decide), Lib.hid (by rw [lowF_zero]; simp [cntC]), Lib.hid rfl, Lib.hid (by have := hD.out; unfold decF at this; simp [this]), H⟩
  case round =>
    clear H
    obtain ⟨i, c, y, rfl, rfl, hi, hib, hc0, hc2, hcl2, hy, hyx, H⟩ := hrel
    by_cases hlt : i < 15
    · have hiI : (i : Int) + 1 ≤ 15 := by omega
      have hci : c ≤ 32768 := by
        obtain ⟨p, hp, h2, h3⟩ := pow_pos_nat i (by omega)
        have := hc2.out
        rw [hp] at this
        omega
      by_cases hbit : i < bs.length
      · obtain ⟨b, hb⟩ : ∃ b, bs[i]? = some b := ⟨bs[i], List.getElem?_eq_getElem hbit⟩
        have ht := rtake_yes (m := 1) H hs (by omega) (by have := hbl.out; omega)
        rw [show ((1 : Nat) : Int) = 1 from rfl] at ht
        have hval : ((textBits s).drop (n + i)).take 1 = [b] := by
          rw [← List.drop_drop, hbs.out]
          have : bs.drop i = b :: bs.drop (i + 1) := by
            obtain ⟨h1, h2⟩ := List.getElem?_eq_some_iff.1 hb
            rw [List.drop_eq_getElem_cons h1, h2]
          rw [this]; rfl
        rw [hval] at ht
        have hvb : valOf [b] = bi b := by simp [valOf]
        rw [hvb] at ht
        have hy2 := hy.out
        have hdrop : bs.drop i = b :: bs.drop (i + 1) := by
          obtain ⟨h1, h2⟩ := List.getElem?_eq_some_iff.1 hb
          rw [List.drop_eq_getElem_cons h1, h2]
        rw [hdrop, show 15 - i = (15 - (i + 1)) + 1 by omega, decN] at hy2
        have hbd := bi_bd b
        have hc2' : Hid (2 * c + bi b < 2 ^ (i + 1)) := Lib.hid (by have := hc2.out; rw [Int.pow_succ]; omega)
        have hsl := symsL_length (l := l) (i + 1)
        have hcnt : cntC l (i + 1) = cntL l (i + 1) := by unfold cntC; rw [if_neg (by omega)]
        have HT := Lib.hid ht
        obtain ⟨d, hd⟩ : ∃ d, bi b = d := ⟨_, rfl⟩
        rw [hd] at hy2 hc2' hbd HT
        have hlow1 : lowF l (i + 1) ≤ 2 * c + d := by have := hcl2.out; rw [lowF_succ]; omega
        have hcode := fun s => code_at (l := l) (n := i + 1) (s := s) (c := 2 * c + d) (by omega) hlow1
        have HCODE := Lib.hid hcode
        have hw1 : IntKind.i64.wrap (2 * c) = 2 * c := IntWalk.i64_in _ ⟨by omega, by omega⟩
        have hw2 : IntKind.i64.wrap (2 * c + d) = 2 * c + d := IntWalk.i64_in _ ⟨by omega, by omega⟩
        have hw3 : IntKind.i64.wrap ((i : Int) + 1 + 1) = (i : Int) + 1 + 1 := IntWalk.i64_in _ ⟨by omega, by omega⟩
        have HY2 := Lib.hid hy2
        have hcd0 : 0 ≤ 2 * c + d := by omega
        have HREST : Hid ((symsL l (i + 1))[(2 * c + d - lowF l (i + 1)).toNat]? = none → lowF l (i + 1) + cntC l (i + 1) ≤ 2 * c + d) := Lib.hid (fun h => by
          have := List.getElem?_eq_none_iff.1 h
          omega)
        clear ht hdrop hvb hval hb hd hy hcode hy2 hcnt hsl hlow1 hcl2 hc2
        have hii : i + 1 ≤ bs.length := hbit
        clear hbit
        go_wp2_with fail
        refine HT.out.mono ?_
        rintro e w2 ⟨_, rfl, rfl, H2⟩
        clear H HT
        go_wp2_with fail
        go_loopw [12] (fun s12 wx => ∃ j : Nat, s12 = .int .i64 j ∧ j ≤ m ∧ Hid (∀ t, t < j → ¬ (l.getD t 0 = ((i + 1 : Nat) : Int) ∧ codeF l t = 2 * c + d)) ∧ Own w0 wx (RRdr rg s (n + i + 1) :: ps)) (fun s12 _ => m - (intOf s12).toNat)
        case atStart => exact ⟨0, by go_num, by omega, Lib.hid (fun t h => by omega), H2⟩
        case round =>
          clear H2
          obtain ⟨j, rfl, hj, hno, H⟩ := hrel
          by_cases hjm : j < m
          · have hjI : (j : Int) < (m : Int) := by omega
            obtain ⟨r1, r2⟩ := HRD.out _ _ H
            have hjl : j < l.length := by have := HM.out; omega
            obtain ⟨b1, o1, rfl, c0⟩ := rd_at r1 (Own.start wr) hjm
            obtain ⟨b2, o2, rfl, c1⟩ := rd_at r2 (Own.start wr) hjm
            rw [codesF_get hjl] at c1
            have hmem : Hid (l.getD j 0 = ((i + 1 : Nat) : Int) → codeF l j = 2 * c + d → (symsL l (i + 1))[(2 * c + d - lowF l (i + 1)).toNat]? = some j) := Lib.hid (fun h1 h2 => (HCODE.out j).1 ⟨hjl, h1, h2⟩)
            have hno2 : Hid (¬ (l.getD j 0 = ((i + 1 : Nat) : Int) ∧ codeF l j = 2 * c + d) → ∀ t, t < j + 1 → ¬ (l.getD t 0 = ((i + 1 : Nat) : Int) ∧ codeF l t = 2 * c + d)) := Lib.hid (fun h t ht => by
              rcases Nat.lt_or_ge t j with h1 | h1
              · exact hno.out t h1
              · have : t = j := by omega
                subst this; exact h)
            generalize l.getD j 0 = x at *
            generalize codeF l j = cj at *
            clear r1 r2
            by_cases hx : x = (i : Int) + 1
            · have hxe : (x == (i : Int) + 1) = true := by simpa using hx
              by_cases hcj : cj = 2 * c + d
              · have hce : (cj == 2 * c + d) = true := by simpa using hcj
                have hy3 := HY2.out
                rw [hmem.out (by omega) hcj] at hy3
                simp only at hy3
                subst hy3
                obtain ⟨hx1, hx2, hx3⟩ := hyx.out
                simp only at hx1 hx2 hx3
                subst hx1 hx2 hx3
                clear hx hcj
                go_wp2_with fail
                go_ret2
                exact ⟨_, rfl, rfl, by rw [← Nat.add_assoc]; exact H⟩
              · have hce : (cj == 2 * c + d) = false := by simpa using hcj
                have hno3 := Lib.hid (hno2.out (fun h => hcj h.2))
                clear hcj hx
                go_wp2_with fail
                go_roundw
                case rel => exact ⟨j + 1, by go_num, by omega, hno3, H⟩
                case measure => simp [intOf]; omega
            · have hxe : (x == (i : Int) + 1) = false := by simpa using hx
              have hno3 := Lib.hid (hno2.out (fun h => hx (by omega)))
              clear hx
              go_wp2_with fail
              go_roundw
              case rel => exact ⟨j + 1, by go_num, by omega, hno3, H⟩
              case measure => simp [intOf]; omega
          · obtain rfl : j = m := by omega
            obtain ⟨r1, r2⟩ := HRD.out _ _ H
            have hjI : ¬ (j : Int) < (j : Int) := by omega
            have hnone : (symsL l (i + 1))[(2 * c + d - lowF l (i + 1)).toNat]? = none := by
              cases hq : (symsL l (i + 1))[(2 * c + d - lowF l (i + 1)).toNat]? with
              | none => rfl
              | some t =>
                have h3 := (HCODE.out t).2 hq
                exact absurd ⟨h3.2.1, h3.2.2⟩ (hno.out t (by have := HM.out; omega))
            have hy3 := HY2.out
            rw [hnone] at hy3
            simp only at hy3
            subst hy3
            have hyx2 : Hid ((decN l (15 - (i + 1)) (i + 1) (2 * c + d) (bs.drop (i + 1))).1 = x1 ∧ (decN l (15 - (i + 1)) (i + 1) (2 * c + d) (bs.drop (i + 1))).2.1 = x2 ∧ i + 1 + (decN l (15 - (i + 1)) (i + 1) (2 * c + d) (bs.drop (i + 1))).2.2 = x3) := Lib.hid (by
              obtain ⟨h1, h2, h3⟩ := hyx.out
              exact ⟨h1, h2, by rw [← h3]; simp only; omega⟩)
            have hcl3 := Lib.hid (HREST.out hnone)
            clear hnone r1 r2
            go_wp2_with fail
            go_roundw
            case rel => exact ⟨i + 1, 2 * c + d, _, by go_num, by go_num, by omega, hii, hcd0, hc2', hcl3, Lib.hid rfl, hyx2, by rw [← Nat.add_assoc]; exact H⟩
            case measure => simp [intOf]; omega
      · have hib2 : i = bs.length := by omega
        have hy2 := hy.out
        rw [List.drop_eq_nil_of_le (by omega), show 15 - i = (15 - (i + 1)) + 1 by omega, decN] at hy2
        subst hy2
        obtain ⟨hx1, hx2, hx3⟩ := hyx.out
        simp only at hx1 hx2 hx3
        rw [Nat.add_zero] at hx3
        subst hx1 hx2 hx3
        have ht := rtake_no 1 (by omega) (by omega) H hs (by have := hbl.out; omega) (.inr (.inr (by have := hbl.out; omega)))
        have HT := Lib.hid ht
        clear ht hib2
        go_wp2_with fail
        refine HT.out.mono ?_
        rintro e w2 ⟨_, rfl, rfl, H2⟩
        clear H
        go_wp2_with fail
        go_ret2
        exact ⟨_, rfl, rfl, H2⟩
    · have hi15 : i = 15 := by omega
      have hiI : ¬ (i : Int) + 1 ≤ 15 := by omega
      have hy2 := hy.out
      rw [show 15 - i = 0 by omega, decN] at hy2
      subst hy2
      obtain ⟨hx1, hx2, hx3⟩ := hyx.out
      simp only at hx1 hx2 hx3
      rw [Nat.add_zero] at hx3
      subst hx1 hx2 hx3
      clear hi15
      go_wp2_with fail
      go_ret2
      exact ⟨_, rfl, rfl, H⟩

end Go.Proofs.Ytpbodonmiepilaa
/- As XCalm: of the operations in 'tw', whose values are known, too, S is told when they were done. No program in sight. (Written by tools/trk.py.) -/
namespace Go.Proofs.Ytpbodonmiepilaa.Trk
open Go.RowKit

def trk (tw : List Nat) (i : Nat) (v : Value) (σ : Sig) : Sig := if i ∈ tw then σ.upd i v else σ
/-- In every world that meets S the operation yields v, and S holds behind it. -/
def Calm1 (P : Program) (S : Sig → World → Prop) (tw : List Nat) (i : Nat) (o : Oper) (a : Act) (v : Value) : Prop :=
  ∀ σ w, S σ w → (i ∈ tw → σ i = none) → ∀ (K : Act → World → Prop) (Q : Exit → Act → World → Prop), (∀ w', S (trk tw i v σ) w' → K (a.put o.dst v) w') → o.wp P a w K Q

def calm (P : Program) (ops : Array Oper) (S : Sig → World → Prop) (nw tw : List Nat) (R : Act → Prop) : Nat → List Oper → Act → Prop
  | _, [], a => R a
  | i, o :: rest, a => (i ∈ nw ∧ New1 P S i o a ∧ calm P ops S nw tw R (i + 1) rest a) ∨
      (i ∉ nw ∧ Region.wanted o (yielded ops a.tmps) = true ∧ ∃ v, Calm1 P S tw i o a v ∧ calm P ops S nw tw R (i + 1) rest (a.put o.dst v)) ∨
      (i ∉ nw ∧ Region.wanted o (yielded ops a.tmps) = false ∧ calm P ops S nw tw R (i + 1) rest (a.put o.dst undef))

section
variable {P : Program} {ops : Array Oper} {S : Sig → World → Prop} {nw tw : List Nat} {R : Act → Prop} {a : Act} {o : Oper} {rest : List Oper} {i : Nat}
theorem calm_nil (h : R a) : calm P ops S nw tw R i [] a := h
theorem calm_step (v : Value) (hi : i ∉ nw) (hw : Region.wanted o (yielded ops a.tmps) = true)
    (h1 : ∀ σ w, S σ w → (i ∈ tw → σ i = none) → ∀ (K : Act → World → Prop) (Q : Exit → Act → World → Prop), (∀ w', S (trk tw i v σ) w' → K (a.put o.dst v) w') → o.wp P a w K Q) (h : calm P ops S nw tw R (i + 1) rest (a.put o.dst v)) : calm P ops S nw tw R i (o :: rest) a := .inr (.inl ⟨hi, hw, v, h1, h⟩)
theorem calm_skip (hi : i ∉ nw) (hw : Region.wanted o (yielded ops a.tmps) = false)
    (h : calm P ops S nw tw R (i + 1) rest (a.put o.dst undef)) : calm P ops S nw tw R i (o :: rest) a := .inr (.inr ⟨hi, hw, h⟩)
theorem calm_new (hi : i ∈ nw)
    (h1 : ∀ σ w, S σ w → ∀ (K : Act → World → Prop) (Q : Exit → Act → World → Prop), (∀ v w', S (σ.upd i v) w' → K (a.put o.dst v) w') → o.wp P a w K Q) (h : calm P ops S nw tw R (i + 1) rest a) : calm P ops S nw tw R i (o :: rest) a := .inl ⟨hi, h1, h⟩
end

section
variable {P : Program} {ops : Array Oper} {S : Sig → World → Prop} {nw tw : List Nat}
theorem calm_frames {R : Act → Prop} : ∀ (l : List Oper) (i : Nat) (a : Act), calm P ops S nw tw R i l a →
    ∃ vs : List Value, vs.length = l.length ∧ R (frames ((dets nw i l).zip vs) a) ∧
      ∀ k o, l[k]? = some o → ∃ v, vs[k]? = some v ∧
        ((i + k ∈ nw ∧ New1 P S (i + k) o (frames (((dets nw i l).zip vs).take k) a)) ∨
         (i + k ∉ nw ∧ Region.wanted o (yielded ops (frames (((dets nw i l).zip vs).take k) a).tmps) = true ∧ Calm1 P S tw (i + k) o (frames (((dets nw i l).zip vs).take k) a) v) ∨
         (i + k ∉ nw ∧ Region.wanted o (yielded ops (frames (((dets nw i l).zip vs).take k) a).tmps) = false ∧ v = undef)) := by
  intro l
  induction l with
  | nil => intro i a h; exact ⟨[], rfl, h, fun k o hk => by simp at hk⟩
  | cons o l ih =>
    intro i a h
    have step : ∀ (v : Value) (a' : Act), a' = a.put (if i ∈ nw then none else o.dst) v → calm P ops S nw tw R (i + 1) l a' →
        ((i ∈ nw ∧ New1 P S i o a) ∨ (i ∉ nw ∧ Region.wanted o (yielded ops a.tmps) = true ∧ Calm1 P S tw i o a v) ∨ (i ∉ nw ∧ Region.wanted o (yielded ops a.tmps) = false ∧ v = undef)) → ∃ vs : List Value, vs.length = (o :: l).length ∧ R (frames ((dets nw i (o :: l)).zip vs) a) ∧
      ∀ k o', (o :: l)[k]? = some o' → ∃ v, vs[k]? = some v ∧
        ((i + k ∈ nw ∧ New1 P S (i + k) o' (frames (((dets nw i (o :: l)).zip vs).take k) a)) ∨
         (i + k ∉ nw ∧ Region.wanted o' (yielded ops (frames (((dets nw i (o :: l)).zip vs).take k) a).tmps) = true ∧ Calm1 P S tw (i + k) o' (frames (((dets nw i (o :: l)).zip vs).take k) a) v) ∨
         (i + k ∉ nw ∧ Region.wanted o' (yielded ops (frames (((dets nw i (o :: l)).zip vs).take k) a).tmps) = false ∧ v = undef)) := by
      intro v a' ha hc h0
      obtain ⟨vs, hl, hR, hk⟩ := ih _ _ hc
      refine ⟨v :: vs, by simp [hl], by rw [ha] at hR; exact hR, fun k o' hk' => ?_⟩
      cases k with
      | zero => simp at hk'; subst hk'; exact ⟨v, rfl, h0⟩
      | succ k =>
        have := hk k o' (by simpa using hk')
        rw [ha, show i + 1 + k = i + (k + 1) by omega] at this
        exact this
    rcases h with ⟨hi, h1, h2⟩ | ⟨hi, hw, v, h1, h2⟩ | ⟨hi, hw, h2⟩
    · exact step undef a (by rw [if_pos hi]; rfl) h2 (.inl ⟨hi, h1⟩)
    · exact step v _ (by rw [if_neg hi]) h2 (.inr (.inl ⟨hi, hw, h1⟩))
    · exact step undef _ (by rw [if_neg hi]) h2 (.inr (.inr ⟨hi, hw, rfl⟩))

theorem Calm1.at {tw : List Nat} {i : Nat} {o : Oper} {a a' : Act} {v : Value} (h : Calm1 P S tw i o a v) (he : execOp a'.eval o = execOp a.eval o) (hs : a.tmps.size = a'.tmps.size) {σ : Sig} {w : World} (hw : S σ w) (hfr : i ∈ tw → σ i = none)
    (K : Act → World → Prop) (Q : Exit → Act → World → Prop) (hK : ∀ w', S (trk tw i v σ) w' → K (a'.put o.dst v) w') : o.wp P a' w K Q := by
  have h1 := h σ w hw hfr (fun a1 w1 => a1 = a.put o.dst v ∧ S (trk tw i v σ) w1) (fun _ _ _ => False) (fun w' hw' => ⟨rfl, hw'⟩)
  unfold Oper.wp at *
  rw [he]
  generalize (execOp a.eval o).run P w = r at *
  cases r with
  | ok n w' =>
    cases n <;> simp only [Oper.upon] at h1 ⊢
    case value u => rw [put_eq hs h1.1]; exact hK _ h1.2
    case skip => rw [put_eq hs h1.1]; exact hK _ h1.2
    case defer d =>
      have := congrArg (fun x => x.defers.length) h1.1
      cases hd : o.dst <;> simp [Act.put, hd] at this
    case enter f args =>
      refine Calls.mono h1 fun e w'' he => ?_
      cases e with
      | returned u =>
        show K (a'.put o.dst u) w''
        rw [put_eq hs he.1]; exact hK _ he.2
      | panicked c => exact he.elim
      | outgrown => obtain ⟨_, _, hh⟩ := he; exact hh.elim
    case row row args => exact Rows.mono h1 fun u w'' he => by rw [put_eq hs he.1]; exact hK _ he.2
  | halt x w' => cases x <;> simp only [Oper.upon] at h1 ⊢
theorem wpAny_new {Q : Exit → Act → World → Prop} {a a0 : Act} {w : World} {l : List Oper} (S : Sig → World → Prop) (n : Nat) (nw tw : List Nat) (pre : List Nat) (htw : ∀ k ∈ tw, k < n ∧ k ∉ nw ∧ k ∉ pre ∧ ∀ o, l[k]? = some o → o.guard = none) (hok : calmOk l.toArray n nw pre = true) (hS : S Sig.no w)
    (h : calm P l.toArray S nw tw (fun a' => ∀ σ w', (∀ k ∈ nw, (σ k).isSome = true) → (∀ k ∈ tw, (σ k).isSome = true) → S σ w' → wpList P l.toArray Q (l.drop n) (putNew l nw σ a') w') 0 (l.take n) a)
    (listed0 : Array Bool) (hs0 : listed0.size = l.length) (hl0 : ∀ k, k < l.length → listed0.getD k true = true → k ∈ pre) (hp0 : ∀ p ∈ pre, listed0.getD p true = true)
    (ha0 : PreRun P l pre a a0) :
    wpAny P .any l.toArray Q (left listed0) listed0 a0 w := by
  have g := good_of hok
  have hnl : n ≤ l.length := by simpa using g.le
  obtain ⟨vs, hvl, hR, hk⟩ := calm_frames _ _ _ h
  have hvn : vs.length = n := by simp [hvl, hnl]
  obtain ⟨D, hD⟩ : ∃ D, (dets nw 0 (l.take n)).zip vs = D := ⟨_, rfl⟩
  rw [hD] at hR hk
  simp only [Nat.zero_add] at hk
  have hDl : D.length = n := by rw [← hD]; simp [dets_length, hvn, hnl]
  have hget : ∀ k, k < n → (dets nw 0 (l.take n))[k]? = (l[k]?).map fun o => if k ∈ nw then none else o.dst := by
    intro k hk
    rw [dets_get]
    simp [hk]
  -- the k-th of D
  have hDk : ∀ (k : Nat) (o : Oper) (v : Value), k < n → k ∉ nw → l[k]? = some o → vs[k]? = some v → D[k]? = some (o.dst, v) := by
    intro k o v hkn hnk ho hv
    rw [← hD, List.getElem?_zip_eq_some]
    refine ⟨?_, hv⟩
    rw [hget k hkn, ho]
    simp [hnk]
  have hDd : ∀ (k : Nat) (t : Tmp) (v : Value), D[k]? = some (some t, v) → k < n ∧ k ∉ nw ∧ ∃ o, l[k]? = some o ∧ o.dst = some t := by
    intro k t v hk
    have hkn : k < n := by rw [← hDl]; exact (List.getElem?_eq_some_iff.1 hk).1
    rw [← hD, List.getElem?_zip_eq_some] at hk
    obtain ⟨h1, _⟩ := hk
    rw [hget k hkn, Option.map_eq_some_iff] at h1
    obtain ⟨o, ho, hd⟩ := h1
    by_cases hnk : k ∈ nw
    · simp [hnk] at hd
    · rw [if_neg hnk] at hd
      exact ⟨hkn, hnk, o, ho, hd⟩
  have huniq : ∀ (j k : Nat) (t : Tmp) (u v : Value), k ≠ j → D[k]? = some (some t, u) → D[j]? ≠ some (some t, v) := by
    intro j k t u v hkj h1 h2
    obtain ⟨hkn, _, ok, hok', hdk⟩ := hDd k _ u h1
    obtain ⟨hjn, _, oj, hoj, hdj⟩ := hDd j _ v h2
    exact (g.pair k j ok oj t hkn hjn hkj (by simpa using hok') (by simpa using hoj) hdk).1 hdj
  -- .. with the new ones' values
  obtain ⟨F, hF⟩ : ∃ F : Sig → Nat → Option (Option Tmp × Value), ∀ σ k, F σ k = if k ∈ nw then (l[k]?).map fun o => (o.dst, (σ k).getD undef) else D[k]? := ⟨_, fun _ _ => rfl⟩
  have hFd : ∀ (σ : Sig) (k : Nat) (t : Tmp) (v : Value), F σ k = some (some t, v) → k < n ∧ ∃ o, l[k]? = some o ∧ o.dst = some t := by
    intro σ k t v hk
    rw [hF] at hk
    by_cases hnk : k ∈ nw
    · rw [if_pos hnk, Option.map_eq_some_iff] at hk
      obtain ⟨o, ho, hd⟩ := hk
      exact ⟨g.newLt k hnk, o, ho, by simp at hd; exact hd.1⟩
    · rw [if_neg hnk] at hk
      obtain ⟨h1, _, h3⟩ := hDd k t v hk
      exact ⟨h1, h3⟩
  have hFu : ∀ (σ : Sig) (j k : Nat) (t : Tmp) (u v : Value), k ≠ j → F σ k = some (some t, u) → F σ j ≠ some (some t, v) := by
    intro σ j k t u v hkj h1 h2
    obtain ⟨hkn, ok, hok', hdk⟩ := hFd σ k _ u h1
    obtain ⟨hjn, oj, hoj, hdj⟩ := hFd σ j _ v h2
    exact (g.pair k j ok oj t hkn hjn hkj (by simpa using hok') (by simpa using hoj) hdk).1 hdj
  have hend : ∀ (E : Nat → Prop) (a' : Act) (σ : Sig), (∀ k, k < n → E k) → Agree (F σ) E a a' → a' = putNew l nw σ (frames D a) := by
    intro E a' σ hall hA
    have hB := agree_frames D huniq a n (by omega)
    rw [List.take_of_length_le (by omega)] at hB
    obtain ⟨k1, k2⟩ := putNew_keeps l σ nw (frames D a)
    refine act_ext ?_ (hA.defers.trans (hB.defers.symm.trans k1.symm))
    apply Array.ext_getElem?
    intro t
    by_cases hts : t < a.tmps.size
    · by_cases hw : ∃ (k : Nat) (v : Value), F σ k = some (some t, v)
      · obtain ⟨k, v, hkv⟩ := hw
        obtain ⟨hkn, o, ho, hd⟩ := hFd σ k _ v hkv
        rw [hA.wrote k t v (hall k hkn) hkv hts]
        have hkv' := hkv
        rw [hF] at hkv
        by_cases hnk : k ∈ nw
        · rw [if_pos hnk, ho] at hkv
          simp at hkv
          rw [putNew_new l σ t k nw _ hnk (by simp [ho, hd]) (fun j hj hdj => ?_) (by rw [hB.size]; exact hts), hkv.2]
          by_cases hjk : j = k
          · exact hjk
          · exfalso
            cases hlj : l[j]? with
            | none => rw [hlj] at hdj; cases hdj
            | some oj =>
              rw [hlj] at hdj
              refine hFu σ j k t v ((σ j).getD undef) (Ne.symm hjk) hkv' ?_
              rw [hF, if_pos hj, hlj]
              simp at hdj
              simp [hdj]
        · rw [if_neg hnk] at hkv
          rw [putNew_old l σ t nw _ fun j hj hdj => ?_, hB.wrote k t v hkn hkv hts]
          cases hlj : l[j]? with
          | none => rw [hlj] at hdj; cases hdj
          | some oj =>
            rw [hlj] at hdj
            refine hFu σ j k t v ((σ j).getD undef) (fun e => hnk (e ▸ hj)) hkv' ?_
            rw [hF, if_pos hj, hlj]
            simp at hdj
            simp [hdj]
      · rw [hA.kept t fun k v _ hkv => hw ⟨k, v, hkv⟩, putNew_old l σ t nw _ fun j hj hdj => ?_, hB.kept t fun k v _ hkv => ?_]
        · obtain ⟨_, hnk, _⟩ := hDd k t v hkv
          exact hw ⟨k, v, by rw [hF, if_neg hnk]; exact hkv⟩
        · cases hlj : l[j]? with
          | none => rw [hlj] at hdj; cases hdj
          | some oj =>
            rw [hlj] at hdj
            refine hw ⟨j, (σ j).getD undef, ?_⟩
            rw [hF, if_pos hj, hlj]
            simp at hdj
            simp [hdj]
    · rw [Array.getElem?_eq_none (show a'.tmps.size ≤ t from by rw [hA.size]; exact Nat.le_of_not_lt hts), Array.getElem?_eq_none (show (putNew l nw σ (frames D a)).tmps.size ≤ t from by rw [k2, hB.size]; exact Nat.le_of_not_lt hts)]
  have main : ∀ (fuel : Nat) (listed : Array Bool) (a' : Act) (w' : World) (σ : Sig), listed.size = l.length → left listed = fuel → (∀ j, n ≤ j → j < l.length → listed.getD j true = false) →
      (∀ k o, k < l.length → listed.getD k true = true → l[k]? = some o → ∀ e ∈ o.after, Region.binds .any e = true → listed.getD e.on false = true) →
      (∀ k ∈ nw, listed.getD k true = true → (σ k).isSome = true) → (∀ k ∈ tw, (listed.getD k true = true → (σ k).isSome = true) ∧ (listed.getD k true = false → σ k = none)) → (∀ p ∈ pre, listed.getD p true = true) →
      Agree (F σ) (fun k => k < n ∧ listed.getD k true = true) a a' → S σ w' → wpAny P .any l.toArray Q fuel listed a' w' := by
    intro fuel
    induction fuel with
    | zero =>
      intro listed a' w' σ hs hl ht hc hσ hτ hP hA hSw
      have hall : ∀ k, k < l.length → listed.getD k true = true := fun k hk => by
        cases hkk : listed.getD k true with
        | true => rfl
        | false => have := left_pos (j := k) (by omega) hkk; omega
      have hn : n = l.length := by
        rcases Nat.lt_or_ge n l.length with h | h
        · have := hall n h; rw [ht n (Nat.le_refl _) h] at this; cases this
        · omega
      refine tail_any g 0 n listed a' w' hs (Nat.le_refl _) (fun k _ hk => hall k hk) ht hl ?_
      rw [hend _ a' σ (fun k hk => ⟨hk, hall k (by omega)⟩) hA]
      exact hR σ w' (fun k hk => hσ k hk (hall k (by have := g.newLt k hk; omega))) (fun k hk => (hτ k hk).1 (hall k (by have := (htw k hk).1; omega))) hSw
    | succ fuel ih =>
      intro listed a' w' σ hs hl ht hc hσ hτ hP hA hSw
      by_cases hpre : ∀ k, k < n → listed.getD k true = true
      · refine tail_any g (fuel + 1) n listed a' w' hs (Nat.le_refl _) (fun k hk _ => hpre k hk) ht hl ?_
        rw [hend _ a' σ (fun k hk => ⟨hk, hpre k hk⟩) hA]
        exact hR σ w' (fun k hk => hσ k hk (hpre k (g.newLt k hk))) (fun k hk => (hτ k hk).1 (hpre k (htw k hk).1)) hSw
      · -- the least that is not listed is ready
        have hex : ∃ k, k < n ∧ listed.getD k true = false := by
          rcases Classical.em (∃ k, k < n ∧ listed.getD k true = false) with h | h
          · exact h
          · exact absurd (fun k hk => by
              cases hkk : listed.getD k true with
              | true => rfl
              | false => exact absurd ⟨k, hk, hkk⟩ h) hpre
        obtain ⟨m, hm, hmin⟩ : ∃ m, (m < n ∧ listed.getD m true = false) ∧ ∀ k, k < m → listed.getD k true = true := by
          obtain ⟨k, hk⟩ := hex
          induction k using Nat.strongRecOn with
          | _ k ihk =>
            rcases Classical.em (∃ j, j < k ∧ listed.getD j true = false) with ⟨j, hj, hjl⟩ | h
            · exact ihk j hj ⟨by omega, hjl⟩
            · refine ⟨k, hk, fun j hj => ?_⟩
              cases hjj : listed.getD j true with
              | true => rfl
              | false => exact absurd ⟨j, hj, hjj⟩ h
        obtain ⟨om, hom⟩ : ∃ o, l[m]? = some o := ⟨_, List.getElem?_eq_getElem (by omega)⟩
        have hready : m ∈ Region.ready .any l.toArray listed := mem_ready.2 ⟨by simp; omega, hm.2, om, by simpa using hom, fun e he hb => by
          have := g.low m om (by simpa using hom) e he hb
          rw [← getD_tf (by omega)]
          exact hmin _ this⟩
        refine ⟨fun h => (by rw [h] at hready; cases hready), fun i hi => ?_⟩
        obtain ⟨hi1, hi2, o, ho, hi3⟩ := mem_ready.1 hi
        have hi1 : i < l.length := by simpa using hi1
        have hol : l[i]? = some o := by simpa using ho
        have hin : i < n := by
          rcases Nat.lt_trichotomy i n with h | h | h
          · exact h
          · -- all that it waits for, and so all, are listed
            subst h
            have hall : ∀ d k, i - k = d → k < i → listed.getD k true = true := by
              intro d
              induction d using Nat.strongRecOn with
              | _ d ihd =>
                intro k hd hk
                by_cases hpk : k ∈ pre
                · exact hP k hpk
                obtain ⟨j, hkj, hji, oj, hoj, hwj⟩ := g.sink (by simpa using hi1) k hk hpk
                obtain ⟨e, he, hb, heq⟩ := waits_spec hwj
                rw [getD_tf (by omega), ← heq]
                rcases Nat.lt_or_ge j i with hlt | hge
                · have hjl := ihd (i - j) (by omega) j rfl hlt
                  exact hc j oj (by omega) hjl (by simpa using hoj) e he hb
                · have : j = i := by omega
                  subst this
                  rw [ho] at hoj
                  cases hoj
                  exact hi3 e he hb
            have := hall _ m rfl hm.1
            rw [hm.2] at this
            cases this
          · obtain ⟨e, he, hb, heq⟩ := waits_spec (g.chain i o h (by simpa using hol))
            have := hi3 e he hb
            rw [heq, ← getD_tf (by omega), ht (i - 1) (by omega) (by omega)] at this
            cases this
        obtain ⟨v, hv, hcase⟩ := hk i o (by simp [hin, hol])
        have hAi := agree_frames D huniq a i (by omega)
        have hsame := same_op (ops := l.toArray) (o := o) (a := frames (D.take i) a) (a' := a') (g.noSel i o ho) (by
          intro t htl
          by_cases hw : ∃ (k : Nat) (u : Value), F σ k = some (some t, u)
          · obtain ⟨k, u, hku⟩ := hw
            obtain ⟨hkn, ok, hok', hdk⟩ := hFd σ k _ u hku
            have hnk : k ∉ nw := fun hnk => g.newApart k hnk ok t (by simpa using hok') hdk i o hin ho htl
            have hDu : D[k]? = some (some t, u) := by rw [hF, if_neg hnk] at hku; exact hku
            by_cases hts : t < a.tmps.size
            · have hki : k ≠ i := fun e => by
                subst e
                rw [hol] at hok'
                cases hok'
                exact g.own k o t hkn ho hdk htl
              rcases (g.pair k i ok o t hkn hin hki (by simpa using hok') ho hdk).2 with h1 | ⟨hlt, hwt⟩ | ⟨hlt, hwt⟩
              · exact absurd htl h1
              · obtain ⟨e, he, hb, heq⟩ := waits_spec hwt
                have hkl : listed.getD k true = true := by
                  rw [getD_tf (by omega), ← heq]; exact hi3 e he hb
                rw [hA.wrote k t u ⟨hkn, hkl⟩ hku hts, hAi.wrote k t u hlt hDu hts]
              · obtain ⟨e, he, hb, heq⟩ := waits_spec hwt
                have hkl : ¬ listed.getD k true = true := fun hkl => by
                  have := hc k ok (by omega) hkl hok' e he hb
                  rw [heq, ← getD_tf (by omega), hi2] at this
                  cases this
                rw [hA.kept t fun k' u' hk' hD' => ?_, hAi.kept t fun k' u' hk' hD' => ?_]
                · by_cases hkk : k' = k
                  · subst hkk; omega
                  · exact huniq k k' t u' u hkk hD' hDu
                · by_cases hkk : k' = k
                  · subst hkk; exact hkl hk'.2
                  · exact hFu σ k k' t u' u hkk hD' hku
            · rw [Array.getElem?_eq_none (show a'.tmps.size ≤ t from by rw [hA.size]; exact Nat.le_of_not_lt hts), Array.getElem?_eq_none (show (frames (D.take i) a).tmps.size ≤ t from by rw [hAi.size]; exact Nat.le_of_not_lt hts)]
          · rw [hA.kept t fun k v _ hkv => hw ⟨k, v, hkv⟩, hAi.kept t fun k v _ hkv => ?_]
            obtain ⟨_, hnk, _⟩ := hDd k t v hkv
            exact hw ⟨k, v, by rw [hF, if_neg hnk]; exact hkv⟩)
        have hset : ∀ k b, (listed.setIfInBounds i true).getD k b = if k = i then true else listed.getD k b := by
          intro k b
          by_cases hki : k = i
          · subst hki; simp [hs, hi1]
          · have : i ≠ k := Ne.symm hki
            simp [Array.getElem?_setIfInBounds_ne this, hki]
        have next : ∀ (σ' : Sig) (u : Value) w'', F σ' i = some (o.dst, u) → Agree (F σ') (fun k => k < n ∧ listed.getD k true = true) a a' → (∀ k ∈ nw, (listed.setIfInBounds i true).getD k true = true → (σ' k).isSome = true) → (∀ k ∈ tw, ((listed.setIfInBounds i true).getD k true = true → (σ' k).isSome = true) ∧ ((listed.setIfInBounds i true).getD k true = false → σ' k = none)) → S σ' w'' →
            wpAny P .any l.toArray Q fuel (listed.setIfInBounds i true) (a'.put o.dst u) w'' := by
          intro σ' u w'' hFi hA' hσ' hτ' hSw''
          refine ih _ _ w'' σ' (by simpa using hs) (by have := left_set (j := i) (by omega) hi2; omega) ?_ ?_ hσ' hτ' (fun p hp => by rw [hset]; split <;> first | rfl | exact hP p hp) ?_ hSw''
          · intro j hj hjl
            rw [hset, if_neg (by omega)]
            exact ht j hj hjl
          · intro k ok hkl hkt hok' e he hb
            rw [hset]
            split
            · rfl
            · rw [hset] at hkt
              by_cases hki : k = i
              · subst hki
                rw [hol] at hok'
                cases hok'
                exact hi3 e he hb
              · rw [if_neg hki] at hkt
                exact hc k ok hkl hkt hok' e he hb
          · have := hA'.put (j := i) hFi (fun k t u' hki hD' e => hFu σ' i k t u' u hki hD' (by rw [hFi, e]))
            refine ⟨this.defers, this.size, fun k t u hk => this.wrote k t u ?_, fun t ht => this.kept t fun k u hk => ht k u ?_⟩
            · obtain ⟨h1, h2⟩ := hk
              rw [hset] at h2
              by_cases hki : k = i
              · exact .inr hki
              · rw [if_neg hki] at h2; exact .inl ⟨h1, h2⟩
            · rw [hset]
              rcases hk with ⟨h1, h2⟩ | rfl
              · exact ⟨h1, by split <;> first | rfl | exact h2⟩
              · exact ⟨hin, by simp⟩
        have hσset : i ∉ nw → ∀ k ∈ nw, (listed.setIfInBounds i true).getD k true = true → (σ k).isSome = true := fun hni k hk hkl => by
          rw [hset, if_neg (fun (e : k = i) => hni (e ▸ hk))] at hkl
          exact hσ k hk hkl
        have hτset : i ∉ tw → ∀ k ∈ tw, ((listed.setIfInBounds i true).getD k true = true → (σ k).isSome = true) ∧ ((listed.setIfInBounds i true).getD k true = false → σ k = none) := fun hni k hk => by
          rw [hset, if_neg (fun (e : k = i) => hni (e ▸ hk))]
          exact hτ k hk
        unfold wpOp
        simp only [ho]
        rcases hcase with ⟨hni, hn1⟩ | ⟨hni, hw1, hc1⟩ | ⟨hni, hw1, rfl⟩
        · have hg := g.newPlain i hni o ho
          rw [show Region.wanted o (yielded l.toArray a'.tmps) = true by simp [Region.wanted, hg]]
          refine .inl (hn1.at hsame.1 (by rw [hAi.size, hA.size]) hSw _ _ fun u w'' hSu => ?_)
          refine next (σ.upd i u) u w'' (by rw [hF, if_pos hni, hol]; simp [Sig.upd]) ?_ ?_ ?_ hSu
          · have hne : ∀ k, (k < n ∧ listed.getD k true = true) → F (σ.upd i u) k = F σ k := fun k hk => by
              have hki : k ≠ i := fun e => by subst e; rw [hi2] at hk; cases hk.2
              rw [hF, hF]
              simp [Sig.upd, hki]
            exact ⟨hA.defers, hA.size, fun k t u' hk hD' => hA.wrote k t u' hk (by rw [← hne k hk]; exact hD'), fun t ht => hA.kept t fun k u' hk => by rw [← hne k hk]; exact ht k u' hk⟩
          · intro k hk hkl
            by_cases hki : k = i
            · simp [Sig.upd, hki]
            · rw [hset, if_neg hki] at hkl
              simpa [Sig.upd, hki] using hσ k hk hkl
          · intro k hk
            have hki : k ≠ i := fun e => (htw k hk).2.1 (e ▸ hni)
            rw [hset, if_neg hki]
            simpa [Sig.upd, hki] using hτ k hk
        · rw [hsame.2, hw1]
          by_cases hit : i ∈ tw
          · refine .inl (hc1.at hsame.1 (by rw [hAi.size, hA.size]) hSw (fun hit => (hτ i hit).2 hi2) _ _ fun w'' hSu => next (σ.upd i v) v w'' (by rw [hF, if_neg hni]; exact hDk i o v hin hni hol hv) ?_ ?_ ?_ (by rw [trk, if_pos hit] at hSu; exact hSu))
            · have hne : ∀ k, (k < n ∧ listed.getD k true = true) → F (σ.upd i v) k = F σ k := fun k hk => by
                have hki : k ≠ i := fun e => by subst e; rw [hi2] at hk; cases hk.2
                rw [hF, hF]
                simp [Sig.upd, hki]
              exact ⟨hA.defers, hA.size, fun k t u' hk hD' => hA.wrote k t u' hk (by rw [← hne k hk]; exact hD'), fun t ht => hA.kept t fun k u' hk => by rw [← hne k hk]; exact ht k u' hk⟩
            · intro k hk hkl
              by_cases hki : k = i
              · simp [Sig.upd, hki]
              · rw [hset, if_neg hki] at hkl
                simpa [Sig.upd, hki] using hσ k hk hkl
            · intro k hk
              rw [hset]
              by_cases hki : k = i
              · simp [Sig.upd, hki]
              · rw [if_neg hki]
                simpa [Sig.upd, hki] using hτ k hk
          · exact .inl (hc1.at hsame.1 (by rw [hAi.size, hA.size]) hSw (fun hit => (hτ i hit).2 hi2) _ _ fun w'' hSu => next σ v w'' (by rw [hF, if_neg hni]; exact hDk i o v hin hni hol hv) hA (hσset hni) (hτset hit) (by rw [trk, if_neg hit] at hSu; exact hSu))
        · rw [hsame.2, hw1]
          have hit : i ∉ tw := fun hit => by
            have := (htw i hit).2.2.2 o hol
            simp [Region.wanted, this] at hw1
          exact next σ undef w' (by rw [hF, if_neg hni]; exact hDk i o undef hin hni hol hv) hA (hσset hni) (hτset hit) hSw
  refine main _ listed0 a0 w Sig.no hs0 rfl (fun j hnj hj => ?_) (fun k o hk hkt ho e he hb => ?_) (fun k hk hkt => ?_) (fun k hk => ?_) hp0 ?_ hS
  · cases hjj : listed0.getD j true with
    | false => rfl
    | true =>
      have := (g.preAny j (hl0 j hj hjj)).1
      omega
  · obtain ⟨_, _, o', ho', _, haf⟩ := g.preAny k (hl0 k hk hkt)
    obtain rfl : o' = o := by simpa [ho] using ho'.symm
    have := g.low k o' (by simpa using ho) e he hb
    rw [← getD_tf (by omega)]
    exact hp0 _ (haf e he hb)
  · exact absurd hk (g.preAny k (hl0 k (by have := g.newLt k hk; omega) hkt)).2.1
  · exact ⟨fun hkt => absurd (hl0 k (by have := (htw k hk).1; omega) hkt) (htw k hk).2.2.1, fun _ => rfl⟩
  · have step : ∀ (r done : List Nat) (a1 : Act), preOk l.toArray n nw done r = true → PreRun P l r a1 a0 → Agree (F Sig.no) (fun k => k ∈ done) a a1 →
        (∀ k ∈ done, ∀ o, l[k]? = some o → ∀ e ∈ o.after, Region.binds .any e = true → e.on ∈ done) → Agree (F Sig.no) (fun k => k ∈ r ∨ k ∈ done) a a0 := by
      intro r
      induction r with
      | nil =>
        intro done a1 _ hr hA _
        obtain rfl : a0 = a1 := hr
        simpa using hA
      | cons p r ih =>
        intro done a1 hpo hr hA hcl
        obtain ⟨hpn, hpw, hpd, ⟨o, hop, hgd, haf⟩, hpo'⟩ := preOk_cons hpo
        have hop : l[p]? = some o := by simpa using hop
        obtain ⟨o', v, ho', hrun, hr'⟩ := hr
        obtain rfl : o' = o := by simpa [hop] using ho'.symm
        obtain ⟨u, hu, hcase⟩ := hk p o' (by simp [hpn, hop])
        have hAi := agree_frames D huniq a p (by omega)
        have hsame := same_op (ops := l.toArray) (o := o') (a := a1) (a' := frames (D.take p) a) (g.noSel p o' (by simpa using hop)) (by
          intro t htl
          by_cases hts : t < a.tmps.size
          · by_cases hw : ∃ (k : Nat) (u : Value), F Sig.no k = some (some t, u)
            · obtain ⟨k, x, hkx⟩ := hw
              obtain ⟨hkn, ok, hok', hdk⟩ := hFd Sig.no k _ x hkx
              have hnk : k ∉ nw := fun hnk => g.newApart k hnk ok t (by simpa using hok') hdk p o' hpn (by simpa using hop) htl
              have hDu : D[k]? = some (some t, x) := by rw [hF, if_neg hnk] at hkx; exact hkx
              have hkp : k ≠ p := fun e => by
                subst e
                rw [hop] at hok'
                cases hok'
                exact g.own k o' t hkn (by simpa using hop) hdk htl
              rcases (g.pair k p ok o' t hkn hpn hkp (by simpa using hok') (by simpa using hop) hdk).2 with h1 | ⟨hlt, hwt⟩ | ⟨hlt, hwt⟩
              · exact absurd htl h1
              · obtain ⟨e, he, hb, heq⟩ := waits_spec hwt
                have hkd : k ∈ done := heq ▸ haf e he hb
                rw [hA.wrote k t x hkd hkx hts, hAi.wrote k t x hlt hDu hts]
              · obtain ⟨e, he, hb, heq⟩ := waits_spec hwt
                have hkd : k ∉ done := fun hkd => hpd (heq ▸ hcl k hkd ok hok' e he hb)
                rw [hA.kept t fun k' u' hk' hD' => ?_, hAi.kept t fun k' u' hk' hD' => ?_]
                · by_cases hkk : k' = k
                  · subst hkk; omega
                  · exact huniq k k' t u' x hkk hD' hDu
                · by_cases hkk : k' = k
                  · subst hkk; exact hkd hk'
                  · exact hFu Sig.no k k' t u' x hkk hD' hkx
            · rw [hA.kept t fun k v _ hkv => hw ⟨k, v, hkv⟩, hAi.kept t fun k v _ hkv => ?_]
              obtain ⟨_, hnk, _⟩ := hDd k t v hkv
              exact hw ⟨k, v, by rw [hF, if_neg hnk]; exact hkv⟩
          · rw [Array.getElem?_eq_none (show (frames (D.take p) a).tmps.size ≤ t from by rw [hAi.size]; exact Nat.le_of_not_lt hts), Array.getElem?_eq_none (show a1.tmps.size ≤ t from by rw [hA.size]; exact Nat.le_of_not_lt hts)])
        have hput : a1.put o'.dst v = a1.put o'.dst u := by
          rcases hcase with ⟨hni, _⟩ | ⟨_, _, hc1⟩ | ⟨_, hw1, _⟩
          · exact absurd hni hpw
          · have h1 := hc1.at (a' := a1) hsame.1.symm (by rw [hAi.size, hA.size]) hS (fun _ => rfl) (fun a2 _ => a2 = a1.put o'.dst u) (fun _ _ _ => False) (fun _ _ => rfl)
            unfold Oper.wp at h1
            rw [hrun w] at h1
            simpa only [Oper.upon] using h1
          · exfalso
            simp [Region.wanted, hgd] at hw1
        rw [hput] at hr'
        have hFp : F Sig.no p = some (o'.dst, u) := by rw [hF, if_neg hpw]; exact hDk p o' u hpn hpw hop hu
        have hA' := hA.put (j := p) hFp (fun k t u' hki hD' e => hFu Sig.no p k t u' u hki hD' (by rw [hFp, e]))
        have hA2 : Agree (F Sig.no) (fun k => k ∈ p :: done) a (a1.put o'.dst u) :=
          ⟨hA'.defers, hA'.size, fun k t x hk => hA'.wrote k t x (by
            rcases List.mem_cons.1 hk with h | h
            · exact .inr h
            · exact .inl h), fun t ht => hA'.kept t fun k x hk => ht k x (by
            rcases hk with h | h
            · exact List.mem_cons_of_mem _ h
            · exact h ▸ List.mem_cons_self ..)⟩
        have := ih (p :: done) _ hpo' hr' hA2 (fun k hk o ho e he hb => by
          rcases List.mem_cons.1 hk with rfl | hk
          · rw [hop] at ho
            cases ho
            exact List.mem_cons_of_mem _ (haf e he hb)
          · exact List.mem_cons_of_mem _ (hcl k hk o ho e he hb))
        refine ⟨this.defers, this.size, fun k t x hk => this.wrote k t x ?_, fun t ht => this.kept t fun k x hk => ht k x ?_⟩
        · rcases hk with hk | hk
          · rcases List.mem_cons.1 hk with rfl | hk
            · exact .inr (List.mem_cons_self ..)
            · exact .inl hk
          · exact .inr (List.mem_cons_of_mem _ hk)
        · rcases hk with hk | hk
          · exact .inl (List.mem_cons_of_mem _ hk)
          · rcases List.mem_cons.1 hk with rfl | hk
            · exact .inl (List.mem_cons_self ..)
            · exact .inr hk
    have h0 : Agree (F Sig.no) (fun k => k ∈ ([] : List Nat)) a a := ⟨rfl, rfl, fun k t v hk _ _ => (by cases hk), fun t _ => rfl⟩
    have := step pre [] a g.preOrd ha0 h0 (fun k hk => by cases hk)
    refine ⟨this.defers, this.size, fun k t x hk => this.wrote k t x (.inl (hl0 k (by omega) hk.2)), fun t ht => this.kept t fun k x hk => ht k x ?_⟩
    rcases hk with hk | hk
    · exact ⟨(g.preAny k hk).1, hp0 k hk⟩
    · cases hk

theorem wp_region_new {id : Nat} {Q : Exit → Act → World → Prop} {a : Act} {w : World} {l : List Oper} (S : Sig → World → Prop) (n : Nat) (nw tw : List Nat) (htw : ∀ k ∈ tw, k < n ∧ k ∉ nw ∧ ∀ o, l[k]? = some o → o.guard = none) (hm : P.follows .mixedOrders = true) (hok : calmOk l.toArray n nw = true) (hS : S Sig.no w.drew)
    (h : calm P l.toArray S nw tw (fun a' => ∀ σ w', (∀ k ∈ nw, (σ k).isSome = true) → (∀ k ∈ tw, (σ k).isSome = true) → S σ w' → wpList P l.toArray Q (l.drop n) (putNew l nw σ a') w') 0 (l.take n) a) : (Code.region id l.toArray true).wp P Q a w := by
  refine wp_region_any hm ?_
  have hl := left_none l.toArray.size
  have := wpAny_new (a0 := a) S n nw tw [] (fun k hk => ⟨(htw k hk).1, (htw k hk).2.1, by simp, (htw k hk).2.2⟩) hok hS h (Array.replicate l.toArray.size false) (by simp) (fun k hk hkt => by simp [hk] at hkt) (fun p hp => by cases hp) rfl
  rw [hl] at this
  exact this


theorem calm_value {R : Act → Prop} {a : Act} {o : Oper} {rest : List Oper} {i : Nat} {v : Value} (hi : i ∉ nw) (ht : i ∉ tw) (hw : Region.wanted o (yielded ops a.tmps) = true) (h1 : ∀ σ w, S σ w → (execOp a.eval o).run P w = .ok (.value v) w) (h : calm P ops S nw tw R (i + 1) rest (a.put o.dst v)) : calm P ops S nw tw R i (o :: rest) a :=
  calm_step v hi hw (fun σ w hS _ K Q hK => by unfold Oper.wp; rw [h1 σ w hS]; exact hK w (by rw [trk, if_neg ht]; exact hS)) h
theorem calm_track {R : Act → Prop} {a : Act} {o : Oper} {rest : List Oper} {i : Nat} {v : Value} (hi : i ∉ nw) (ht : i ∈ tw) (hw : Region.wanted o (yielded ops a.tmps) = true) (h1 : ∀ σ w, S σ w → σ i = none → ∃ w', (execOp a.eval o).run P w = .ok (.value v) w' ∧ S (σ.upd i v) w') (h : calm P ops S nw tw R (i + 1) rest (a.put o.dst v)) : calm P ops S nw tw R i (o :: rest) a :=
  calm_step v hi hw (fun σ w hS hf K Q hK => by
    obtain ⟨w', hr, hs⟩ := h1 σ w hS (hf ht)
    unfold Oper.wp
    rw [hr]
    exact hK w' (by rw [trk, if_pos ht]; exact hs)) h
end
end Go.Proofs.Ytpbodonmiepilaa.Trk
/- A call that changes what there is, in a region that draws its order. -/
namespace Go.Proofs.Ytpbodonmiepilaa

section
variable {P : Program} {ops : Array Oper} {S : Sig → World → Prop} {nw tw : List Nat} {R : Act → Prop} {a : Act} {o : Oper} {rest : List Oper} {i : Nat}
/-- A call whose value is known, of which S is told. -/
theorem kcalm_call {v : Value} {f : FuncId} {args : Array Value} (hi : i ∉ nw) (hit : i ∈ tw) (hw : Region.wanted o (yielded ops a.tmps) = true) (hr : ∀ w, (execOp a.eval o).run P w = .ok (.enter f args) w)
    (hc : ∀ σ w, S σ w → σ i = none → Calls P f args w fun e w' => e = .returned v ∧ S (σ.upd i v) w') (h : Trk.calm P ops S nw tw R (i + 1) rest (a.put o.dst v)) : Trk.calm P ops S nw tw R i (o :: rest) a :=
  Trk.calm_step v hi hw (fun σ w hS hf K Q hK => by
    unfold Oper.wp
    rw [hr w]
    refine (hc σ w hS (hf hit)).mono ?_
    rintro e w' ⟨rfl, hS'⟩
    exact hK w' (by rw [Trk.trk, if_pos hit]; exact hS')) h
end
section
variable {P : Program} {ops : Array Oper} {S : Sig → World → Prop} {nw : List Nat} {R : Act → Prop} {a : Act} {o : Oper} {rest : List Oper} {i : Nat}
theorem ncalm_call {f : FuncId} {args : Array Value} (hi : i ∈ nw) (hr : ∀ w, (execOp a.eval o).run P w = .ok (.enter f args) w)
    (hc : ∀ σ w, S σ w → Calls P f args w fun e w' => ∃ v, e = .returned v ∧ S (σ.upd i v) w') (h : calm P ops S nw R (i + 1) rest a) : calm P ops S nw R i (o :: rest) a :=
  calm_new hi (fun σ w hS K Q hK => by
    unfold Oper.wp
    rw [hr w]
    refine (hc σ w hS).mono ?_
    rintro e w' ⟨v, rfl, hS'⟩
    exact hK v w' hS') h
end
end Go.Proofs.Ytpbodonmiepilaa
