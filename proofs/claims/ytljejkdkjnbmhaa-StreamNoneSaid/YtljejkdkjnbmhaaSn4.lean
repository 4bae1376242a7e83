/-
  Texts of this claim, one behind the other: stream; stream; stream.
-/
import Derived.Test.YtljejkdkjnbmhaaSn3
set_option linter.unusedVariables false
/- stream: the walk of Feed: a round. -/
namespace Go.Proofs.Ytljejkdkjnbmhaa
open Go.RowKit

set_option maxRecDepth 100000 in
set_option maxHeartbeats 12800000 in
theorem feed_any {w0 w : World} {ps : List Piece} {gr told : Nat} {A x : ByteArray} {most : Int} {st : Inf} (hm : 0 ≤ most ∧ most ≤ 1000000) (hsz : A.size + x.size ≤ 1000000) (hn : st.n ≤ 8 * A.size) (ho : (st.out.length : Int) ≤ most) (ht : told ≤ st.out.length)
    (H : Own w0 w (StP gr A most told st 0 :: ps)) :
    Calls Try.prog 6 #[.pointer (some ⟨gr, 0, none⟩), .string x] w (Ret (FeedPost w0 ps gr (A ++ x) most told st)) := by
  obtain ⟨lit, dist, H⟩ := H.stp
  have hext := Lib.hid (ext_app (A := A) (x := x) (q := st.n / 8) (by omega))
  obtain ⟨A', hA'⟩ : ∃ A', Hid (A ++ x = A') := ⟨_, rfl⟩
  have hZ : Hid (A'.size = A.size + x.size) := Lib.hid (by rw [← hA'.out, ByteArray.size_append])
  rw [hA'.out] at hext ⊢
  obtain ⟨buf0, hbuf0⟩ : ∃ b, Hid (A.extract (st.n / 8) A.size = b) := ⟨_, rfl⟩
  rw [hbuf0.out] at H hext
  have hbs : ¬ 9223372036854775807 < buf0.size + x.size := by
    have h3 := hbuf0.out
    have h4 : buf0.size ≤ A.size := by rw [← h3, ByteArray.size_extract]; omega
    omega
  obtain ⟨sa, sc, h1, h2, HR⟩ := H.str
  have c0 := HR.cells
  have hst0 : Hid (FeedSt (textBits A') A'.size most told st st) := Lib.hid ⟨.refl _, by have := hZ.out; omega, ho, ht⟩
  obtain ⟨hm0, hm1⟩ := hm
  have hZb : A'.size ≤ 1000000 := by have := hZ.out; omega
  obtain ⟨N0, hN0⟩ : ∃ N, Hid (st.out.length = N) := ⟨_, rfl⟩
  rw [hN0.out] at HR h1
  rw [hN0.out] at c0
  obtain ⟨b0, hb0⟩ : ∃ b : Nat, Hid (st.n % 8 = b) := ⟨_, rfl⟩
  obtain ⟨q0, hq0⟩ : ∃ b : Nat, Hid (st.n / 8 = b) := ⟨_, rfl⟩
  obtain ⟨is0, his0⟩ : ∃ b, Hid (st.tab.isSome = b) := ⟨_, rfl⟩
  obtain ⟨dn0, hdn0⟩ : ∃ b, Hid (st.done = b) := ⟨_, rfl⟩
  obtain ⟨la0, hla0⟩ : ∃ b, Hid (st.last = b) := ⟨_, rfl⟩
  obtain ⟨ou0, hou0⟩ : ∃ b, Hid (st.out = b) := ⟨_, rfl⟩
  rw [hb0.out, hq0.out, his0.out, hdn0.out, hla0.out, hou0.out] at HR
  rw [hb0.out, hq0.out, his0.out, hdn0.out, hla0.out] at c0
  clear H ho ht hn hsz h1
  go_enter Try.func6, Try.ntmps6
  go_upto_block 0 with (refine wpList_store_string rfl _ _ rfl rfl HR rfl (by kernel_rfl) (by simp) ?_; clear HR c0; intro w1 HR)
  have H : Own w0 w1 (StP gr A' most told st 0 :: ps) := unstp (lit := lit) (dist := dist) (by
    rw [← hext.out, hb0.out, hq0.out, his0.out, hdn0.out, hla0.out, hou0.out]
    exact HR.unstr (by rw [← hou0.out]; exact hN0.out.symm))
  clear HR hext hbuf0 hN0 hb0 hq0 his0 hdn0 hla0 hou0 h2
  clear hbs
  obtain ⟨B, hB⟩ : ∃ B, Hid (textBits A' = B) := ⟨_, rfl⟩
  obtain ⟨Z, hZ2⟩ : ∃ Z, Hid (A'.size = Z) := ⟨_, rfl⟩
  rw [hB.out, hZ2.out] at hst0
  rw [hZ2.out] at hZb
  clear hZ
  simp only [Act.put]
  go_cut [6, 7] (fun _ _ wx => ∃ (st1 : Inf) (e1 : Int), Hid (FeedSt B Z most told st st1) ∧ Hid (FeedEnd B most st1 e1) ∧ Own w0 wx (StP gr A' most told st1 e1 :: ps))
  case first =>
    go_wp2_with fail
    go_loopw [6, 7] (fun _ _ wx => ∃ st1 : Inf, Hid (FeedSt B Z most told st st1) ∧ Own w0 wx (StP gr A' most told st1 0 :: ps)) (fun _ _ wx => feedmeas Z ((wx.cell? ⟨gr, 1, none⟩).getD undef) ((wx.cell? ⟨gr, 2, none⟩).getD undef))
    case atStart => exact ⟨st, hst0, H⟩
    case round =>
      clear H hst0
      obtain ⟨st1, hst, H⟩ := hrel
      have hmz := Lib.hid (feedmeas_own (Z := Z) H)
      obtain ⟨lit, dist, H⟩ := H.stp
      obtain ⟨dn, hdn⟩ : ∃ d, Hid (st1.done = d) := ⟨_, rfl⟩
      rw [hdn.out] at H
      have hnZ := hst.out.2.1
      have hoZ := hst.out.2.2.1
      have htZ := hst.out.2.2.2
      obtain ⟨buf, hbuf⟩ : ∃ b, Hid (A'.extract (st1.n / 8) A'.size = b) := ⟨_, rfl⟩
      have hbsz : Hid (buf.size = Z - st1.n / 8) := Lib.hid (by rw [← hbuf.out, ByteArray.size_extract, ← hZ2.out]; omega)
      rw [hbuf.out] at H
      cases dn
      case true =>
        have hend : Hid (FeedEnd B most st1 0) := Lib.hid (.inl ⟨hdn.out, rfl⟩)
        obtain ⟨sa, sc, h1, h2, HR⟩ := H.str
        have c0 := HR.cells
        clear HR
        go_wp2
        go_meet
        exact ⟨st1, 0, hst, hend, unstp (by rw [hbuf.out, hdn.out]; exact H)⟩
      have hsb : buf.size ≤ 1000000 := by have := hbsz.out; omega
      have hbit : st1.n % 8 ≤ 8 * buf.size := by have := hbsz.out; omega
      have hbit8 : st1.n % 8 ≤ 16 := by omega
      obtain ⟨bit, hbt⟩ : ∃ b, Hid (st1.n % 8 = b) := ⟨_, rfl⟩
      obtain ⟨used, hus⟩ : ∃ b, Hid (st1.n / 8 = b) := ⟨_, rfl⟩
      have husZ : used ≤ 1000000 := by have := hus.out; omega
      rw [hbt.out] at hbit hbit8
      rw [hbt.out, hus.out] at H
      obtain ⟨N, hN⟩ : ∃ N, Hid (st1.out.length = N) := ⟨_, rfl⟩
      have hok : Hid (tkOk buf 0 (bit : Int)) := Lib.hid (by unfold tkOk; omega)
      have hG : Hid ((∀ e : Int, e ≠ 0 → GotS (stepG (textBits buf) most ⟨bit, st1.out, st1.tab, st1.last⟩) Inf.init 0 e → (e = -1 → FeedEnd B most st1 0) ∧ (e ≠ -1 → 0 < e ∧ FeedEnd B most st1 e)) ∧
          (∀ (st' : Inf) (m : Nat), (st'.out.length : Int) ≤ most → stepG (textBits buf) most ⟨bit, st1.out, st1.tab, st1.last⟩ = .ok st' m → FeedSt B Z most told st (shI used st') ∧ st1.n < (shI used st').n ∧ m = st'.n)) := Lib.hid (by
        rw [← hB.out, ← hbuf.out, ← hbt.out, ← hus.out, ← hZ2.out]
        refine ⟨fun e he hg => feed_bad (by rw [hZ2.out]; exact hnZ) hdn.out he hg, fun st' m h9 hg => feed_good (m := m) ?_ hdn.out h9 hg⟩
        have := hst.out
        rw [← hB.out, ← hZ2.out] at this
        exact this)
      have hst1 := Lib.hid (rfl : (⟨bit, st1.out, st1.tab, st1.last⟩ : Inf) = ⟨bit, st1.out, st1.tab, st1.last⟩)
      obtain ⟨ins, hins⟩ : ∃ b, Hid (st1.tab.isSome = b) := ⟨_, rfl⟩
      rw [hins.out] at H
      have K1 : Hid (∀ (w' : World) (qs : List Piece), Own w0 w' qs → _) := Lib.hid fun (w' : World) (qs : List Piece) (h : Own w0 w' qs) => bnew_any buf h
      obtain ⟨sa, sc, h1, h2, HR⟩ := H.str
      have c0 := HR.cells
      go_wp2_with fail
      refine (K1.out _ _ H).mono ?_
      rintro e0 w2 ⟨_, rfl, rg, rfl, H1⟩
      clear K1 H HR c0
      go_upto_region 8 with (fail)
      have H2 := H1.alloc (.cells #[.pointer (some ⟨rg, 0, none⟩), .bool false, .int .i64 0] 45)
      generalize w2.alloc _ = w3 at *
      generalize w2.heap.size = g at *
      have H3 : Own w0 w3 (Prt g rg buf 0 0 :: StR gr ⟨buf, (bit : Int), (used : Int), st1.out, most, (told : Int), ins, st1.last, lit, dist, 0, false⟩ :: TabP lit dist st1.tab :: ps) := Own.unprt (e := 0) H2
      clear H1 H2
      have HT := Lib.hid (pttake_any bit hbit8 H3 hsb (by omega))
      rw [ptN_zero] at HT
      have e1 : tkN buf 0 (bit : Int) = bit := by unfold tkN; rw [if_pos hok.out]; simp
      have e2 : ptE buf 0 (bit : Int) 0 = 0 := by unfold ptE; rw [if_pos hok.out]
      rw [e1, e2] at HT
      clear e1 e2
      obtain ⟨sa, sc, h1', h2', HR⟩ := (H3.front 1 rfl).str
      have c0 := HR.cells
      clear HR
      go_wp2_with fail
      refine HT.out.mono ?_
      rintro e0 w4 ⟨_, rfl, -, H4⟩
      clear HT H3 c0
      replace H4 : Own w0 w4 (StR gr ⟨buf, (bit : Int), (used : Int), st1.out, most, (told : Int), ins, st1.last, lit, dist, 0, false⟩ :: TabP lit dist st1.tab :: Prt g rg buf bit 0 :: ps) := ((H4.front 2 rfl).front 2 rfl)
      obtain ⟨sa, sc, h1', h2', HR⟩ := H4.str
      have c0 := HR.cells
      clear HR
      go_upto_if 56 with (fail)
      go_cut [] (fun wx => StepPost w0 ps gr g rg buf (TabP lit dist st1.tab) ⟨buf, (bit : Int), (used : Int), st1.out, most, (told : Int), ins, st1.last, lit, dist, 0, false⟩ (stepG (textBits buf) most ⟨bit, st1.out, st1.tab, st1.last⟩) wx)
      case first =>
        clear hmz hG hst
        obtain ⟨tab, htab⟩ : ∃ t, Hid (st1.tab = t) := ⟨_, rfl⟩
        rw [htab.out] at H4
        cases tab with
        | none =>
          obtain rfl : ins = false := by rw [← hins.out, htab.out]; rfl
          have HH := Lib.hid (sthead_any ⟨hm0, hm1⟩ hoZ hsb hbit ((H4.front 1 rfl).drop))
          go_wp2_with fail
          refine HH.out.mono ?_
          rintro e0 w5 ⟨_, rfl, h5⟩
          go_wp2
          go_meet
          rw [htab.out]
          exact h5
        | some t =>
          obtain rfl : ins = true := by rw [← hins.out, htab.out]; rfl
          obtain ⟨L, D⟩ := t
          have HH := Lib.hid (sttoken_any ⟨hm0, hm1⟩ hoZ hsb hbit H4)
          go_wp2_with fail
          refine HH.out.mono ?_
          rintro e0 w5 ⟨_, rfl, h5⟩
          go_wp2
          go_meet
          rw [htab.out]
          exact h5
      case rest =>
      clear H4 c0 hok
      obtain ⟨n2, e2, hn2, hbad, hgood⟩ := hcut
      replace hbad := Lib.hid hbad
      replace hgood := Lib.hid hgood
      by_cases he2 : e2 = 0
      case neg =>
        obtain ⟨hg2, H5⟩ := hbad.out he2
        have hfe := Lib.hid (hG.out.1 e2 he2 hg2)
        clear hbad hgood hG
        have H6 : Own w0 wc (Prt g rg buf n2 e2 :: StR gr ⟨buf, (bit : Int), (used : Int), st1.out, most, (told : Int), ins, st1.last, lit, dist, 0, false⟩ :: TabP lit dist st1.tab :: ps) := H5.front 2 rfl
        have HP := H6.prt
        have c1 := HP.cells
        by_cases he3 : e2 = -1
        · subst he3
          rw [se_ran.1, se_ran.2] at c1
          have hend := Lib.hid (hfe.out.1 rfl)
          clear HP hfe
          go_wp2
          go_meet
          refine ⟨st1, 0, hst, hend, unstp (lit := lit) (dist := dist) ?_⟩
          rw [hbuf.out, hdn.out, hbt.out, hus.out, hins.out]
          exact H6.drop
        · rw [(se_bad he3).1, (se_bad he3).2] at c1
          obtain ⟨hpos, hend⟩ := hfe.out.2 he3
          replace hend := Lib.hid hend
          have hb2 : (e2 == 0) = false := by simp; omega
          obtain ⟨sa, sc, h1', h2', HR⟩ := H5.str
          clear HP hfe H5 H6
          go_wp2_with (refine wpList_store_int rfl _ _ rfl rfl HR rfl (by kernel_rfl) (by simp) ?_; clear HR c1; intro w6 HR; have c0 := HR.cells)
          go_meet
          refine ⟨st1, e2, hst, hend, unstp (lit := lit) (dist := dist) ?_⟩
          rw [hbuf.out, hdn.out, hbt.out, hus.out, hins.out]
          exact (((HR.unstr rfl).front 2 rfl).drop)
      subst he2
      obtain ⟨st', lit', dist', hgs, ho', H5⟩ := hgood.out rfl
      obtain ⟨hst2, hlt, rfl⟩ := hG.out.2 st' n2 ho' hgs
      replace hst2 := Lib.hid hst2
      replace hlt := Lib.hid hlt
      clear hbad hgood hG hgs ho' hst1 hins
      replace H5 : Own w0 wc (StR gr ⟨buf, (bit : Int), (used : Int), st'.out, most, (told : Int), st'.tab.isSome, st'.last, lit', dist', 0, false⟩ :: TabP lit' dist' st'.tab :: Prt g rg buf st'.n 0 :: ps) := H5
      obtain ⟨n2, hn2e⟩ : ∃ k, Hid (st'.n = k) := ⟨_, rfl⟩
      obtain ⟨z, hz⟩ : ∃ k, Hid (n2 / 8 = k) := ⟨_, rfl⟩
      obtain ⟨bit2, hb2⟩ : ∃ k, Hid (n2 % 8 = k) := ⟨_, rfl⟩
      have hA1 : Hid ((shI used st').n / 8 = used + z) := Lib.hid (by have := hn2e.out; have := hz.out; show (st'.n + 8 * used) / 8 = _; omega)
      have hA2 : Hid ((shI used st').n % 8 = bit2) := Lib.hid (by have := hn2e.out; have := hb2.out; show (st'.n + 8 * used) % 8 = _; omega)
      rw [hn2e.out] at H5 hn2
      have hzb : z ≤ buf.size := by have := hz.out; omega
      have hzb2 : z ≤ 1000000 := by omega
      have hbuf3 : Hid (A'.extract (used + z) A'.size = buf.extract z buf.size) := Lib.hid (by rw [← hbuf.out, hus.out]; exact (ext_ext (by rw [hZ2.out]; have := hus.out; omega)).symm)
      obtain ⟨is2, his2⟩ : ∃ k, Hid (st'.tab.isSome = k) := ⟨_, rfl⟩
      obtain ⟨la2, hla2⟩ : ∃ k, Hid (st'.last = k) := ⟨_, rfl⟩
      have hdone : Hid ((shI used st').done = (la2 && !is2)) := Lib.hid (by
        rw [← his2.out, ← hla2.out]
        show (st'.last && st'.tab.isNone) = _
        cases st'.tab <;> rfl)
      rw [his2.out, hla2.out] at H5
      obtain ⟨sa, sc, h1', h2', HR⟩ := H5.str
      obtain ⟨N2, hN2⟩ : ∃ k, Hid (st'.out.length = k) := ⟨_, rfl⟩
      rw [hN2.out] at HR
      have HP := (HR.front 3 rfl).prt
      rw [se_zero.1, se_zero.2] at HP
      have c1 := HP.cells
      replace HR : Own w0 wc (blk gr (.cells #[.string buf, .int .i64 bit, .int .i64 used, .slice sa N2 sc, .int .i64 most, .int .i64 told, .bool is2, .bool la2, lit', dist', .int .i64 0, .bool false] 40) :: slc 5 1 (.slice sa N2 sc) N2 (bcells st'.out) :: TabP lit' dist' st'.tab :: blk g (.cells #[.pointer (some ⟨rg, 0, none⟩), .bool false, .int .i64 0] 45) :: Rdr rg buf n2 :: ps) := ((((HP.front 4 rfl).front 4 rfl).front 4 rfl))
      clear HP H5 h1' h2'
      have HU : Hid (∀ (w' : World) (qs : List Piece), Own w0 w' (Rdr rg buf n2 :: qs) → _) := Lib.hid fun (w' : World) (qs : List Piece) (h : Own w0 w' (Rdr rg buf n2 :: qs)) => used_any h
      have q1 : (n2 : Int).tdiv 8 = (z : Int) := by have := hz.out; rw [Int.tdiv_eq_ediv_of_nonneg (by omega)]; omega
      have q2 : (n2 : Int) / 8 = (z : Int) := by have := hz.out; omega
      have q3 : IntKind.i64.wrap (z : Int) = (z : Int) := IntWalk.i64_in _ ⟨by omega, by omega⟩
      have q4 : (n2 : Int).tmod 8 = (bit2 : Int) := by have := hb2.out; rw [Int.tmod_eq_emod_of_nonneg (by omega)]; omega
      have q5 : (n2 : Int) % 8 = (bit2 : Int) := by have := hb2.out; omega
      have q6 : IntKind.i64.wrap (bit2 : Int) = (bit2 : Int) := IntWalk.i64_in _ ⟨by have := hb2.out; omega, by have := hb2.out; omega⟩
      have q7 : IntKind.i64.wrap ((used : Int) + (z : Int)) = (used : Int) + (z : Int) := IntWalk.i64_in _ ⟨by omega, by omega⟩
      go_upto_region 15 with (refine wpList_store_int rfl _ _ rfl rfl HR rfl (by kernel_rfl) (by simp) ?_; clear HR; intro w5 HR; have c0 := HR.cells)
      replace HR : Own w0 w5 (blk gr (.cells #[.string buf, .int .i64 bit, .int .i64 used, .slice sa N2 sc, .int .i64 most, .int .i64 told, .bool is2, .bool la2, lit', dist', .int .i64 0, .bool false] 40) :: slc 5 1 (.slice sa N2 sc) N2 (bcells st'.out) :: TabP lit' dist' st'.tab :: blk g (.cells #[.pointer (some ⟨rg, 0, none⟩), .bool false, .int .i64 0] 45) :: Rdr rg buf n2 :: ps) := HR
      clear c0 c1
      have c0 := HR.cells
      have c1 := (HR.front 3 rfl).cells
      go_wp2_with fail
      refine (HU.out _ _ (HR.front 4 rfl)).mono ?_
      rintro e0 w6 ⟨rfl, rfl⟩
      go_upto_region 16 with (fail)
      have hsl : ∀ w, (Instr.sliceAt 9 (.string buf) (some (.int .i64 (z : Int))) none none).run Try.prog w = .ok (.string (buf.extract z buf.size)) w := fun w => by
        have hzI : (z : Int) ≤ (buf.size : Int) := by omega
        go_simp
      obtain ⟨buf2, hbuf2⟩ : ∃ b, Hid (buf.extract z buf.size = b) := ⟨_, rfl⟩
      rw [hbuf2.out] at hsl hbuf3
      have HD0 := HR.drew
      clear c0 c1 HR
      refine Trd.wp_region_new (fun σ w1 => ((σ 23).isSome = true → (σ 6).isSome = true) ∧ Own w0 w1 (blk gr (.cells #[.string (if (σ 23).isSome = true then buf2 else buf), .int .i64 (if (σ 26).isSome = true then (bit2 : Int) else (bit : Int)), .int .i64 used, .slice sa N2 sc, .int .i64 most, .int .i64 told, .bool is2, .bool la2, lit', dist', .int .i64 0, .bool false] 40) :: slc 5 1 (.slice sa N2 sc) N2 (bcells st'.out) :: TabP lit' dist' st'.tab :: blk g (.cells #[.pointer (some ⟨rg, 0, none⟩), .bool false, .int .i64 0] 45) :: Rdr rg buf n2 :: ps)) 29 [] [6, 23, 26] (by intro k hk; simp at hk; rcases hk with rfl | rfl | rfl <;> exact ⟨by omega, by simp, fun o ho => by simp at ho; subst ho; rfl⟩) (by kernel_rfl) (by kernel_rfl) ⟨fun h => by simp [Sig.no] at h, HD0⟩ ?_
      simp only [List.take_succ_cons, List.take_zero, List.drop_succ_cons, List.drop_zero]
      repeat
        first
        | (refine Trd.calm_value (v := ?_) (by decide) (by decide) rfl (fun σ w1 hS => ?_) ?_
           rotate_left
           · have c0 := hS.2.cells; have c1 := (hS.2.front 3 rfl).cells
             first | (go_simp; rfl) | rfl
           simp only [Act.put, List.setIfInBounds_toArray, List.set_cons_zero, List.set_cons_succ])
        | (refine Trd.calm_skip (by decide) rfl ?_
           simp only [Act.put, List.setIfInBounds_toArray, List.set_cons_zero, List.set_cons_succ])
      refine Trd.calm_track (v := .string buf) (by decide) (by decide) rfl (fun σ w1 hS hn _ => ?_) ?_
      · have h23 : (σ 23).isSome = false := by
          cases h : (σ 23).isSome with
          | false => rfl
          | true => have := hS.1 h; rw [hn] at this; cases this
        have c0 := hS.2.cells
        rw [h23] at c0
        refine ⟨w1, by go_simp, fun _ => by simp [Sig.upd], ?_⟩
        simpa [Sig.upd] using hS.2
      simp only [Act.put, List.setIfInBounds_toArray, List.set_cons_zero, List.set_cons_succ]
      repeat
        first
        | (refine Trd.calm_value (v := ?_) (by decide) (by decide) rfl (fun σ w1 hS => ?_) ?_
           rotate_left
           · have c0 := hS.2.cells; have c1 := (hS.2.front 3 rfl).cells
             first | (go_simp; rfl) | rfl
           simp only [Act.put, List.setIfInBounds_toArray, List.set_cons_zero, List.set_cons_succ])
        | (refine Trd.calm_skip (by decide) rfl ?_
           simp only [Act.put, List.setIfInBounds_toArray, List.set_cons_zero, List.set_cons_succ])
      refine dcalm_call (v := .int .i64 n2) (by decide) (by decide) rfl (fun w1 => (by go_simp; first | exact ⟨rfl, rfl⟩ | rfl)) (fun σ w1 hS => ?_) ?_
      · refine (HU.out _ _ (hS.2.front 4 rfl)).mono ?_
        rintro e5 w5 ⟨rfl, rfl⟩
        exact ⟨rfl, hS⟩
      simp only [Act.put, List.setIfInBounds_toArray, List.set_cons_zero, List.set_cons_succ]
      repeat
        first
        | (refine Trd.calm_value (v := ?_) (by decide) (by decide) rfl (fun σ w1 hS => ?_) ?_
           rotate_left
           · have c0 := hS.2.cells; have c1 := (hS.2.front 3 rfl).cells
             first | (go_simp; rfl) | rfl
           simp only [Act.put, List.setIfInBounds_toArray, List.set_cons_zero, List.set_cons_succ])
        | (refine Trd.calm_skip (by decide) rfl ?_
           simp only [Act.put, List.setIfInBounds_toArray, List.set_cons_zero, List.set_cons_succ])
      refine dcalm_store (off := 0) (u := .string buf2) _ _ (by decide) (by decide) rfl rfl rfl rfl rfl (by kernel_rfl) rfl (fun σ w1 hS hn hd => ?_) ?_
      · have h6 := hd 6 (by decide) ⟨⟨6, .phase⟩, by simp, by decide, rfl⟩
        refine ⟨w0, _, _, _, hS.2, by simp, fun w' h => ⟨fun _ => by simpa [Sig.upd] using h6, ?_⟩⟩
        simpa [Sig.upd] using h
      simp only [Act.put]
      repeat
        first
        | (refine Trd.calm_value (v := ?_) (by decide) (by decide) rfl (fun σ w1 hS => ?_) ?_
           rotate_left
           · have c0 := hS.2.cells; have c1 := (hS.2.front 3 rfl).cells
             first | (go_simp; rfl) | rfl
           simp only [Act.put, List.setIfInBounds_toArray, List.set_cons_zero, List.set_cons_succ])
        | (refine Trd.calm_skip (by decide) rfl ?_
           simp only [Act.put, List.setIfInBounds_toArray, List.set_cons_zero, List.set_cons_succ])
      refine dcalm_store (off := 1) (u := .int .i64 (bit2 : Int)) _ _ (by decide) (by decide) rfl rfl rfl rfl rfl (by kernel_rfl) rfl (fun σ w1 hS hn hd => ?_) ?_
      · refine ⟨w0, _, _, _, hS.2, by simp, fun w' h => ⟨fun h9 => by simpa [Sig.upd] using hS.1 (by simpa [Sig.upd] using h9), ?_⟩⟩
        simpa [Sig.upd] using h
      simp only [Act.put]
      repeat
        first
        | (refine Trd.calm_value (v := ?_) (by decide) (by decide) rfl (fun σ w1 hS => ?_) ?_
           rotate_left
           · have c0 := hS.2.cells; have c1 := (hS.2.front 3 rfl).cells
             first | (go_simp; rfl) | rfl
           simp only [Act.put, List.setIfInBounds_toArray, List.set_cons_zero, List.set_cons_succ])
        | (refine Trd.calm_skip (by decide) rfl ?_
           simp only [Act.put, List.setIfInBounds_toArray, List.set_cons_zero, List.set_cons_succ])
      refine Trd.calm_nil ?_
      intro σ wd _ hσ HD
      replace HD := HD.2
      rw [if_pos (hσ 23 (by decide)), if_pos (hσ 26 (by decide))] at HD
      clear hσ HD0
      simp only [putNew, List.foldl_nil]
      go_upto_region 17 with (refine wpList_store_int rfl _ _ rfl rfl HD rfl (by kernel_rfl) (by simp) ?_; clear HD; intro w7 HD)
      replace HD : Own w0 w7 (blk gr (.cells #[.string buf2, .int .i64 bit2, .int .i64 ((used : Int) + (z : Int)), .slice sa N2 sc, .int .i64 most, .int .i64 told, .bool is2, .bool la2, lit', dist', .int .i64 0, .bool false] 40) :: slc 5 1 (.slice sa N2 sc) N2 (bcells st'.out) :: TabP lit' dist' st'.tab :: blk g (.cells #[.pointer (some ⟨rg, 0, none⟩), .bool false, .int .i64 0] 45) :: Rdr rg buf n2 :: ps) := HD
      have FIN : Hid (∀ w', Own w0 w' (blk gr (.cells #[.string buf2, .int .i64 bit2, .int .i64 ((used : Int) + (z : Int)), .slice sa N2 sc, .int .i64 most, .int .i64 told, .bool is2, .bool la2, lit', dist', .int .i64 0, .bool (la2 && !is2)] 40) :: slc 5 1 (.slice sa N2 sc) N2 (bcells st'.out) :: TabP lit' dist' st'.tab :: blk g (.cells #[.pointer (some ⟨rg, 0, none⟩), .bool false, .int .i64 0] 45) :: Rdr rg buf n2 :: ps) → Own w0 w' (StP gr A' most told (shI used st') 0 :: ps)) := Lib.hid fun w' h => by
        refine unstp (lit := lit') (dist := dist') ?_
        rw [hA1.out, hA2.out, hbuf3.out, hdone.out]
        have e1 : (shI used st').out = st'.out := rfl
        have e2 : (shI used st').tab = st'.tab := rfl
        have e3 : (shI used st').last = st'.last := rfl
        rw [e1, e2, e3, his2.out, hla2.out, Int.natCast_add]
        exact ((h.unstr hN2.out.symm).front 2 rfl).drop.front 2 rfl |>.drop
      clear hA1 hA2 hbuf3 hdone hbuf2 hN2 his2 hla2 hn2e hz hb2 q1 q2 q3 q4 q5 q6 q7 hsl HU
      have c0 := HD.cells
      cases la2 <;> cases is2
      all_goals
        go_wp2_with (refine wpList_store_bool rfl _ _ rfl rfl HD rfl (by kernel_rfl) (by simp) ?_; clear HD c0; intro w8 HD)
        have H9 := FIN.out _ HD
        clear HD FIN
        simp only [Act.put]
        go_roundw
        case rel => exact ⟨shI used st', hst2, H9⟩
        case measure =>
          rw [hmz.out, feedmeas_own H9]
          have h1 := hst2.out.2.1
          have h2 := hlt.out
          omega
  case rest =>
    clear H hst0
    obtain ⟨st1, e1, hst, hend, H⟩ := hcut
    obtain ⟨lit, dist, H⟩ := H.stp
    have ho1 := hst.out.2.2.1
    have ht1 := hst.out.2.2.2
    obtain ⟨buf, hbuf⟩ : ∃ b, Hid (A'.extract (st1.n / 8) A'.size = b) := ⟨_, rfl⟩
    obtain ⟨bit, hbt⟩ : ∃ b, Hid (st1.n % 8 = b) := ⟨_, rfl⟩
    obtain ⟨used, hus⟩ : ∃ b, Hid (st1.n / 8 = b) := ⟨_, rfl⟩
    obtain ⟨ins, hins⟩ : ∃ b, Hid (st1.tab.isSome = b) := ⟨_, rfl⟩
    obtain ⟨la, hla⟩ : ∃ b, Hid (st1.last = b) := ⟨_, rfl⟩
    obtain ⟨dn, hdn⟩ : ∃ b, Hid (st1.done = b) := ⟨_, rfl⟩
    obtain ⟨out, hout⟩ : ∃ b, Hid (st1.out = b) := ⟨_, rfl⟩
    rw [hbuf.out, hbt.out, hus.out, hins.out, hla.out, hdn.out, hout.out] at H
    rw [hout.out] at ho1 ht1
    have FIN : Hid (∀ w', Own w0 w' (StR gr ⟨buf, (bit : Int), (used : Int), out, most, (out.length : Int), ins, la, lit, dist, e1, dn⟩ :: TabP lit dist st1.tab :: ps) → FeedPost w0 ps gr A' most told st (.tuple #[.string (strOfNums (out.drop told)), .int .i64 e1]) w') := Lib.hid fun w' h => by
      refine ⟨st1, e1, by rw [hout.out], ?_, ?_, unstp (lit := lit) (dist := dist) ?_⟩
      · rw [hB.out, hZ2.out]; exact hst.out
      · rw [hB.out]; exact hend.out
      · rw [hbuf.out, hbt.out, hus.out, hins.out, hla.out, hdn.out, hout.out]; exact h
    clear hst hend hbuf hbt hus hins hla hdn hout hB hZ2 hA'
    obtain ⟨sa, sc, h1, h2, HR⟩ := H.str
    obtain ⟨N, hN⟩ : ∃ k, Hid (out.length = k) := ⟨_, rfl⟩
    rw [hN.out] at HR ho1 ht1 h1
    obtain ⟨txt, htxt⟩ : ∃ t, Hid (strOfNums (out.drop told) = t) := ⟨_, rfl⟩
    rw [htxt.out, hN.out] at FIN
    obtain ⟨tv, htv⟩ : ∃ v, Hid (sliced sa told N sc 1 = v) := ⟨_, rfl⟩
    have hsl : ∀ w, (Instr.sliceAt 37 (.slice sa N sc) (some (.int .i64 (told : Int))) none none).run Try.prog w = .ok tv w := fun w => run_slice_from (by kernel_rfl) (fun _ => by kernel_rfl) ht1 htv.out w
    have hcv : Hid (∀ (w1 : World) (q : Piece) (qs : List Piece), Own w0 w1 (q :: slc 5 1 (.slice sa N sc) N (bcells out) :: qs) → (convert 37 9 tv).run Try.prog w1 = .ok (.string txt) w1) := Lib.hid fun w1 q qs h => by
      rw [← htxt.out]
      have hr := (h.front 1 rfl).rd.sliced (k := told) (m := N) ht1 (Nat.le_refl _)
      rw [htv.out] at hr
      have e9 : (List.take (N * 1) (bcells out)).drop (told * 1) = (out.drop told).map (.int .u8) := by
        rw [Nat.mul_one, Nat.mul_one, List.take_of_length_le (by rw [bcells_length, hN.out]; exact Nat.le_refl _)]
        simp [bcells]
      rw [e9] at hr
      exact run_string_sep (P := Try.prog) 37 9 Try.underlying37 Try.underlying5 Try.underlying9 hr
    have hwN : IntKind.i64.wrap (N : Int) = (N : Int) := IntWalk.i64_in _ ⟨by omega, by omega⟩
    go_upto_region 18 with (fail)
    refine wp_region_calm (fun w1 => Own w0 w1 (blk gr (.cells #[.string buf, .int .i64 bit, .int .i64 used, .slice sa N sc, .int .i64 most, .int .i64 told, .bool ins, .bool la, lit, dist, .int .i64 e1, .bool dn] 40) :: slc 5 1 (.slice sa N sc) N (bcells out) :: TabP lit dist st1.tab :: ps)) 10 (by kernel_rfl) (by kernel_rfl) HR.drew ?_
    simp only [List.take_succ_cons, List.take_zero, List.drop_succ_cons, List.drop_zero]
    repeat
      first
      | (refine calm_value (v := ?_) (by decide) rfl (fun σ w1 hS => ?_) ?_
         rotate_left
         · have c0 := hS.cells; have c1 := hcv.out _ _ _ hS
           first | (go_simp; rfl) | rfl
         simp only [Act.put, List.setIfInBounds_toArray, List.set_cons_zero, List.set_cons_succ])
      | (refine calm_skip (by decide) rfl ?_
         simp only [Act.put, List.setIfInBounds_toArray, List.set_cons_zero, List.set_cons_succ])
    refine calm_nil ?_
    intro wd HD
    clear HR hsl hcv htv htxt H
    have c0 := HD.cells
    go_upto_region 20 with (refine wpList_store_int rfl _ _ rfl rfl HD rfl (by kernel_rfl) (by simp) ?_; clear HD c0; intro w7 HD)
    simp only [Act.put]
    replace HD : Own w0 w7 (blk gr (.cells #[.string buf, .int .i64 bit, .int .i64 used, .slice sa N sc, .int .i64 most, .int .i64 N, .bool ins, .bool la, lit, dist, .int .i64 e1, .bool dn] 40) :: slc 5 1 (.slice sa N sc) N (bcells out) :: TabP lit dist st1.tab :: ps) := HD
    refine wp_region_calm (fun w1 => Own w0 w1 (blk gr (.cells #[.string buf, .int .i64 bit, .int .i64 used, .slice sa N sc, .int .i64 most, .int .i64 N, .bool ins, .bool la, lit, dist, .int .i64 e1, .bool dn] 40) :: slc 5 1 (.slice sa N sc) N (bcells out) :: TabP lit dist st1.tab :: ps)) 6 (by kernel_rfl) (by kernel_rfl) HD.drew ?_
    simp only [List.take_succ_cons, List.take_zero, List.drop_succ_cons, List.drop_zero]
    repeat
      first
      | (refine calm_value (v := ?_) (by decide) rfl (fun σ w1 hS => ?_) ?_
         rotate_left
         · have c0 := hS.cells
           first | (go_simp; rfl) | rfl
         simp only [Act.put, List.setIfInBounds_toArray, List.set_cons_zero, List.set_cons_succ])
      | (refine calm_skip (by decide) rfl ?_
         simp only [Act.put, List.setIfInBounds_toArray, List.set_cons_zero, List.set_cons_succ])
    refine calm_nil ?_
    intro we HE
    clear HD
    go_wp2_with fail
    go_ret2
    exact ⟨_, rfl, FIN.out _ (HE.unstr hN.out.symm)⟩
end Go.Proofs.Ytljejkdkjnbmhaa
/- stream: part by part along the one way, plainly. No program in sight. -/
namespace Go.Proofs.Ytljejkdkjnbmhaa
open Go.RowKit

/-- Behind t bytes of P, on the way to its end. -/
def OnWay (P : ByteArray) (most : Int) (fin : Inf) (t : Nat) (st : Inf) : Prop :=
  Steps (textBits P) most Inf.init st ∧ Steps (textBits P) most st fin ∧ st.n ≤ 8 * t
theorem bits_take (P : ByteArray) (t : Nat) : textBits (P.extract 0 t) = (textBits P).take (8 * t) := by
  have e2 : ∀ (l : List Int) (j : Nat), (bitsOfNums l).take (8 * j) = bitsOfNums (l.take j) := by
    intro l
    induction l with
    | nil => intro j; simp [bitsOfNums]
    | cons x t ih =>
      intro j
      cases j with
      | zero => simp [bitsOfNums]
      | succ j =>
        rw [List.take_succ_cons, bitsOfNums, List.flatMap_cons, bitsOfNums, List.flatMap_cons, show 8 * (j + 1) = (bitsOf x 8).length + 8 * j by rw [bitsOf_length]; omega, List.take_length_add_append]
        exact congrArg _ (ih j)
  unfold textBits
  rw [e2]
  congr 1
  unfold byteNums
  rw [ByteArray.data_extract, Array.toList_extract, List.extract_eq_take_drop, ← List.map_take, List.drop_zero, Nat.sub_zero]
theorem onway_start {P : ByteArray} {most : Int} {fin : Inf} (h : Steps (textBits P) most Inf.init fin) : OnWay P most fin 0 Inf.init := ⟨.refl _, h, by simp [Inf.init]⟩
/-- A Feed goes on along the way. -/
theorem onway_feed {P : ByteArray} {most : Int} {fin st st' : Inf} {t t' Z told : Nat} {e : Int} (hf : fin.done = true) (h : OnWay P most fin t st) (ht : t ≤ t') (hP : t' ≤ P.size)
    (h1 : FeedSt (textBits (P.extract 0 t')) Z most told st st') (h2 : FeedEnd (textBits (P.extract 0 t')) most st' e) : e = 0 ∧ OnWay P most fin t' st' ∧ (t' = P.size → st' = fin) := by
  obtain ⟨a1, a2, a3⟩ := h
  have hl : (textBits P).length = 8 * P.size := textBits_length P
  have hm : 8 * t' ≤ (textBits P).length := by omega
  rw [bits_take] at h1 h2
  obtain ⟨b1, b2, b3⟩ := steps_one hm h1.1 (by omega) a2 hf
  have hw : OnWay P most fin t' st' := ⟨a1.trans b1, b2, b3⟩
  rcases h2 with ⟨hd, rfl⟩ | ⟨hd, rfl, hr⟩ | ⟨hd, he, hr⟩
  · exact ⟨rfl, hw, fun _ => steps_done b2 hd⟩
  · refine ⟨rfl, hw, fun h9 => ?_⟩
    rw [List.take_of_length_le (by omega)] at hr
    exact absurd hr (steps_nran b2 hf hd)
  · exact absurd hr (steps_nbad hm b3 b2 hf hd)
/-- What is told so far, and what is told then. -/
theorem str_grow {a b : List Int} (h : a <+: b) : strOfNums a ++ strOfNums (b.drop a.length) = strOfNums b := by
  obtain ⟨c, rfl⟩ := h
  rw [List.drop_left]
  unfold strOfNums
  apply ByteArray.ext
  rw [ByteArray.data_append]
  simp
def gotB : Got Inf → Inf → Bool
  | .ok st _, st' => decide (st.n = st'.n) && (decide (st.out = st'.out) && (decide (st.tab = st'.tab) && decide (st.last = st'.last)))
  | _, _ => false
theorem gotB_eq {g : Got Inf} {st : Inf} (h : gotB g st = true) : ∃ m, g = .ok st m := by
  cases g with
  | ok st' m =>
    simp only [gotB, Bool.and_eq_true, decide_eq_true_eq] at h
    obtain ⟨h1, h2, h3, h4⟩ := h
    obtain ⟨a, b, c, d⟩ := st'
    obtain ⟨a', b', c', d'⟩ := st
    simp only at h1 h2 h3 h4
    subst h1; subst h2; subst h3; subst h4
    exact ⟨m, rfl⟩
  | ran => cases h
  | bad e => cases h
def exP : ByteArray := ⟨#[0x4b, 4, 0]⟩
def endF : Inf := ⟨18, [97], none, true⟩
set_option maxRecDepth 100000 in
theorem ex_1 : ∃ m, stepG (textBits exP) 9 Inf.init = .ok ⟨3, [], some fixTab, true⟩ m := gotB_eq (by decide +kernel)
set_option maxRecDepth 100000 in
theorem ex_2 : ∃ m, stepG (textBits exP) 9 ⟨3, [], some fixTab, true⟩ = .ok ⟨11, [97], some fixTab, true⟩ m := gotB_eq (by decide +kernel)
set_option maxRecDepth 100000 in
theorem ex_3 : ∃ m, stepG (textBits exP) 9 ⟨11, [97], some fixTab, true⟩ = .ok endF m := gotB_eq (by decide +kernel)
theorem ex_way : Steps (textBits exP) 9 Inf.init endF := by
  obtain ⟨m1, h1⟩ := ex_1
  obtain ⟨m2, h2⟩ := ex_2
  obtain ⟨m3, h3⟩ := ex_3
  exact .step rfl h1 (.step rfl h2 (.step rfl h3 (.refl _)))
/-- Of the example's first byte nothing is told. -/
theorem ex_first {st : Inf} (h : OnWay exP 9 endF 1 st) : st.out = [] := by
  obtain ⟨h1, -, h3⟩ := h
  obtain ⟨m1, e1⟩ := ex_1
  obtain ⟨m2, e2⟩ := ex_2
  cases h1 with
  | refl => rfl
  | step hd hs hr =>
    rw [e1] at hs
    cases hs
    cases hr with
    | refl => rfl
    | step hd hs hr =>
      rw [e2] at hs
      cases hs
      have := (steps_mono hr (by rw [textBits_length]; decide)).1
      simp only at this
      omega
/-- Behind the second it is not done. -/
theorem ex_second {st : Inf} (h : OnWay exP 9 endF 2 st) : st.done = false := by
  obtain ⟨-, h2, h3⟩ := h
  cases hd : st.done with
  | false => rfl
  | true =>
    have := steps_done h2 hd
    subst this
    simp [endF] at h3
end Go.Proofs.Ytljejkdkjnbmhaa
/- stream: the walks of the examples, of a reader that is none. -/
namespace Go.Proofs.Ytljejkdkjnbmhaa
open Go.RowKit

set_option maxRecDepth 100000 in
set_option maxHeartbeats 3200000 in
theorem awake39_any (w : World) : Calls Try.prog 8 #[] w (Ret fun r w' => r = .bool true ∧ Own w w' []) := by
  have H := Own.start w
  have kd : Hid (∀ (w0 w' : World) (qs : List Piece) (gr told : Nat) (A : ByteArray) (st : Inf) (e : Int), st.n ≤ 80000000 → Own w0 w' (StP gr A 9 told st e :: qs) → _) := Lib.hid fun w0 w' qs gr told A st e hn h => stdone_any (w0 := w0) (ps := qs) hn h
  have kf : Hid (∀ (w0 w' : World) (qs : List Piece) (gr told : Nat) (A x : ByteArray) (st : Inf), A.size + x.size ≤ 1000000 → st.n ≤ 8 * A.size → (st.out.length : Int) ≤ 9 → told ≤ st.out.length → Own w0 w' (StP gr A 9 told st 0 :: qs) → _) := Lib.hid fun w0 w' qs gr told A x st h1 h2 h3 h4 h => feed_any (w0 := w0) (ps := qs) (x := x) (by decide) h1 h2 h3 h4 h
  have kn : Hid (∀ w', Own w w' [] → _) := Lib.hid fun w' h => stnew_any (w0 := w) 9 (by decide) h
  go_enter Try.func8, Try.ntmps8
  go_wp2_with fail
  refine (kn.out _ H).mono ?_
  rintro e w1 ⟨_, rfl, g, rfl, H1⟩
  have W0 : Hid (OnWay exP 9 endF 0 Inf.init) := Lib.hid (onway_start ex_way)
  clear H kn
  go_wp2_with fail
  refine (kf.out w w1 [] g 0 ByteArray.empty ⟨#[75]⟩ Inf.init (by decide) (by decide) (by decide) (by decide) H1).mono ?_
  rintro e w2 ⟨_, rfl, st1, e1, rfl, f1, d1, H2⟩
  obtain ⟨rfl, W1, -⟩ := onway_feed (P := exP) (t' := 1) rfl W0.out (by decide) (by decide) f1 d1
  have o1 : st1.out = [] := ex_first W1
  have b1 := f1.2.2.1
  replace W1 := Lib.hid W1
  have n1 : st1.n ≤ 8 * (ByteArray.empty ++ ⟨#[75]⟩ : ByteArray).size := f1.2.1
  clear H1 W0 f1 d1
  rw [o1] at H2 ⊢
  go_wp2_with fail
  refine (kf.out w w2 [] g 0 _ ⟨#[4]⟩ st1 (by decide) n1 b1 (by omega) H2).mono ?_
  rintro e w3 ⟨_, rfl, st2, e2, rfl, f2, d2, H3⟩
  obtain ⟨rfl, W2, -⟩ := onway_feed (P := exP) (t' := 2) rfl W1.out (by decide) (by decide) f2 d2
  have nd := ex_second W2
  have b2 := f2.2.2.1
  replace W2 := Lib.hid W2
  have n2 : st2.n ≤ 8 * (ByteArray.empty ++ ⟨#[75]⟩ ++ ⟨#[4]⟩ : ByteArray).size := f2.2.1
  clear H2 W1 f2 d2 n1 b1
  have n2' : st2.n ≤ 16 := n2
  go_wp2_with fail
  refine (kd.out w w3 [] g _ _ st2 0 (by omega) H3).mono ?_
  rintro e w3 ⟨_, rfl, rfl, rfl⟩
  rw [nd, if_neg (by decide)]
  go_wp2_with fail
  refine (kf.out w w3 [] g _ _ ⟨#[0]⟩ st2 (by decide) n2 b2 (Nat.le_refl _) H3).mono ?_
  rintro e w4 ⟨_, rfl, st3, e3, rfl, f3, d3, H4⟩
  obtain ⟨rfl, W3, h3⟩ := onway_feed (P := exP) (t' := 3) rfl W2.out (by decide) (by decide) f3 d3
  obtain rfl := h3 rfl
  have hgr := str_grow (steps_pre W2.out.2.1)
  obtain ⟨T2, hT2⟩ : ∃ t, Hid (strOfNums st2.out = t) := ⟨_, rfl⟩
  obtain ⟨T3, hT3⟩ : ∃ t, Hid (strOfNums (List.drop st2.out.length endF.out) = t) := ⟨_, rfl⟩
  have hT : T2 ++ T3 = ⟨#[97]⟩ := by
    rw [← hT2.out, ← hT3.out]
    exact hgr
  have hsz : ¬ 9223372036854775807 < T2.size + T3.size := by
    have : (T2 ++ T3).size = 1 := by rw [hT]; rfl
    rw [ByteArray.size_append] at this
    omega
  have hE : strOfNums ([] : List Int) = ByteArray.empty := by decide
  clear H3 W2 f3 d3 W3 h3 hgr n2 n2' b2 nd kf
  go_wp2_with fail
  refine (kd.out w w4 [] g _ _ endF 0 (by decide) H4).mono ?_
  rintro e w4 ⟨_, rfl, rfl, rfl⟩
  have hF : endF.done = true := rfl
  have hN : nbytes endF.n = 3 := by decide
  rw [hF, if_pos rfl, hN]
  rw [hT2.out, hT3.out]
  go_wp2_with fail
  go_ret
  exact ⟨_, rfl, rfl, H4.bare⟩

set_option maxRecDepth 100000 in
set_option maxHeartbeats 800000 in
theorem feednone_any (s : ByteArray) (w : World) : Calls Try.prog 6 #[.pointer none, .string s] w (Ret fun r w' => r = .tuple #[.string ByteArray.empty, .int .i64 8] ∧ w' = w) := by
  go_enter Try.func6, Try.ntmps6
  go_wp2
  go_ret2
  exact ⟨_, rfl, rfl, rfl⟩
set_option maxRecDepth 100000 in
set_option maxHeartbeats 800000 in
theorem donenone_any (w : World) : Calls Try.prog 7 #[.pointer none] w (Ret fun r w' => r = .tuple #[.int .i64 0, .bool false] ∧ w' = w) := by
  go_enter Try.func7, Try.ntmps7
  go_wp2
  go_ret2
  exact ⟨_, rfl, rfl, rfl⟩
set_option maxRecDepth 100000 in
set_option maxHeartbeats 800000 in
theorem lawnone39_any (s : ByteArray) (w : World) : Calls Try.prog 3 #[.string s] w (Ret fun r w' => r = .bool true ∧ Own w w' []) := by
  go_enter Try.func3, Try.ntmps3
  go_wp2_with fail
  refine (feednone_any s _).mono ?_
  rintro e w1 ⟨_, rfl, rfl, rfl⟩
  go_wp2_with fail
  refine (donenone_any _).mono ?_
  rintro e w2 ⟨_, rfl, rfl, rfl⟩
  go_wp2_with fail
  refine (awake39_any _).mono ?_
  rintro e w3 ⟨_, rfl, rfl, H⟩
  go_wp2_with fail
  go_ret
  exact ⟨_, rfl, rfl, H⟩
end Go.Proofs.Ytljejkdkjnbmhaa
