/-
  net: the walk of bound.
-/
import Derived.Test.YtnpflnplpipipaaNetC
import Derived.Test.YtnpflnplpipipaaTrk
namespace Go.Proofs.Ytnpflnplpipipaa
open Go.RowKit Go.Maps

section
variable {w0 w : World} {ps : List Piece} {g : Nat} {K D : Int} {F : List Fa} {late : Int × Int → Int} {c : Nat} {M : List (It (Int × ByteArray))} {k : Nat}

/-- A store in a region that draws its order: S is told when it was done. -/
theorem new_store {P : Program} {S : Sig → World → Prop} {i : Nat} {o : Oper} {a : Act} {ty e : TypeId} (x y : Operand) (ho : o.op = .store ty x y) {g off : Nat} (hx : a.eval x = .pointer (some ⟨g, off, none⟩)) (vs : List Value) (hy : (a.eval y).cells.toList = vs)
    (hi : (P.info? ty).map (·.size) = some vs.length) (h1 : ∀ u ∈ vs, u.oneCell' = true)
    (hS : ∀ σ w, S σ w → ∃ cur ps, Own w0 w (blk g (.cells cur e) :: ps) ∧ off + vs.length ≤ cur.size ∧ ∀ w', Own w0 w' (blk g (.cells (cur.toList.take off ++ vs ++ cur.toList.drop (off + vs.length)).toArray e) :: ps) → S (σ.upd i undef) w') : New1 P S i o a := by
  intro σ w hs K Q hK
  obtain ⟨cur, ps, H, hfit, hn⟩ := hS σ w hs
  have hl : vs.length = (a.eval y).cells.size := by rw [← hy]; simp
  have hr := run_storeAt_row (P := P) (ty := ty) (a.eval y) H.block.1 (by rw [hi, hl]) (by rw [← hl]; exact hfit) (by rw [hy]; exact h1)
  rw [hy, ← hl] at hr
  unfold Oper.wp execOp
  simp only [ho, hx, Sem.run_bind, Sem.run_pure, Result.andThen_ok, hr]
  exact hK _ _ (hn _ H.setRow)

theorem tcalm_lookup {P : Program} {ops : Array Oper} {S : Sig → World → Prop} {nw tw : List Nat} {R : Act → Prop} {a : Act} {o : Oper} {rest : List Oper} {i : Nat} {K E t : TypeId} {α : Type} {enc : α → Value} {b : Nat} {g : α → Int} {w0 : World}
    (m x : Operand) (hi : i ∉ nw) (hit : i ∉ tw) (hw : Region.wanted o (yielded ops a.tmps) = true) (ho : o.op = .lookup t m x false) (hm : a.eval m = .map (some b)) {k : α} (hx : a.eval x = enc k)
    (hS : ∀ σ w, S σ w → ∃ n ps, Own w0 w (mpi P K E enc b n g :: ps)) (hK : Keyed P K) (ht : P.underlying t = some (.map K E)) (he : P.underlying E = some (.int .i64)) (hz : ∀ w, (zeroValue E).run P w = .ok (.int .i64 0) w)
    {kl : Lit} (hkey : keyOf P K (enc k) = some kl)
    (h : Trk.calm P ops S nw tw R (i + 1) rest (a.put o.dst (.int .i64 (g k)))) : Trk.calm P ops S nw tw R i (o :: rest) a :=
  Trk.calm_value hi hit hw (fun σ w hs => by
    obtain ⟨n, ps, H⟩ := hS σ w hs
    have hr := mpi_lookup H hK ht he (hz w) hkey
    simp [execOp, ho, hm, hx, hr]) h
theorem tcalm_entry {P : Program} {ops : Array Oper} {S : Sig → World → Prop} {nw tw : List Nat} {R : Act → Prop} {a : Act} {o : Oper} {rest : List Oper} {i : Nat} {t : TypeId} {v mv kv : Value}
    (m x : Operand) (hi : i ∉ nw) (hit : i ∈ tw) (hw : Region.wanted o (yielded ops a.tmps) = true) (ho : o.op = .mapEntry t m x) (hm : a.eval m = mv) (hx : a.eval x = kv)
    (h1 : ∀ σ w, S σ w → σ i = none → ∃ w', (Instr.mapEntry t mv kv).run P w = .ok v w' ∧ S (σ.upd i v) w')
    (h : Trk.calm P ops S nw tw R (i + 1) rest (a.put o.dst v)) : Trk.calm P ops S nw tw R i (o :: rest) a :=
  Trk.calm_track hi hit hw (fun σ w hs hn => by
    obtain ⟨w', hr, h2⟩ := h1 σ w hs hn
    exact ⟨w', by simp [execOp, ho, hm, hx, hr], h2⟩) h

set_option maxRecDepth 100000 in
set_option maxHeartbeats 3200000 in
theorem netbound_any (H : Own w0 w (NetP g K D F late c M k :: ps)) (cl : Int × Int) (hc1 : In64 cl.1) (hc2 : In64 cl.2) (f : Fa) (hf : FOk f) (hD : 0 ≤ D) (hD2 : D ≤ 64) (hK : 0 ≤ K) (hK2 : K ≤ 9223372036854775807) (hn : c ≤ 1000000)
    (hl0 : 0 ≤ late cl) (hl : late cl ≤ 1000000) :
    Calls Try.prog 19 #[.pointer (some ⟨g, 0, none⟩), k2 cl, fval f] w (Ret fun v w' => v = fval (boundF K D (late cl) f) ∧ Own w0 w' (NetP g K D F (lateF K D cl (boundF K D (late cl) f) late) (c + 1) M k :: ps)) := by
  obtain ⟨vf, b, H⟩ := net_open H
  obtain ⟨m, vd, hh, hp, H⟩ := dq_blk H
  have HH := Lib.hid hh
  have HP := Lib.hid hp
  clear hh hp
  obtain ⟨kl, hkl⟩ := k2_key cl hc1 hc2
  have HKL := Lib.hid hkl
  clear hkl
  have fin : ∀ (wz : World) (c' : Nat) (late' : Int × Int → Int), c' ≤ c + 1 → Own w0 wz (blk g (.cells #[.int .i64 K, .int .i64 D, vf, .map (some b), vd, .int .i64 k] 54) :: slc 73 4 vd m.length (rows DueP.icell m) :: sld 30 3 vf F.length (rows fcell F) :: mpi Try.prog 56 3 k2 b c' late' :: ps) → Own w0 wz (NetP g K D F late' (c + 1) M k :: ps) := by
    intro wz c' late' hc h
    have h1 := (h.front 3 rfl).mpi_mono hc
    exact net_shut (dq_unblk HH.out HP.out ((((h1.front 3 rfl).front 3 rfl).front 3 rfl)))
  have FIN := Lib.hid fin
  clear fin HH HP
  obtain ⟨ln, hln⟩ : ∃ ln, Hid (late cl = ln) := ⟨_, rfl⟩
  rw [hln.out] at hl hl0 ⊢
  obtain ⟨cl1, cl2⟩ := cl
  unfold k2 fval
  go_enter Try.func19, Try.ntmps19
  go_upto_region 1 with (fail)
  replace H := H.alloc3 (.cells #[.int .i64 cl1, .int .i64 cl2] 56) (.cells #[.bool f.drop, .int .i64 f.delay, .int .i64 f.copies] 30) (.cells #[.bool false, .int .i64 0, .int .i64 0] 30)
  generalize ((w.alloc (.cells #[.int .i64 cl1, .int .i64 cl2] 56)).alloc (.cells #[.bool f.drop, .int .i64 f.delay, .int .i64 f.copies] 30)).alloc (.cells #[.bool false, .int .i64 0, .int .i64 0] 30) = wa at *
  obtain ⟨rc, hrc⟩ : ∃ g, w.heap.size + 1 + 1 = g := ⟨_, rfl⟩
  rw [hrc] at H ⊢
  obtain ⟨fb, hfb⟩ : ∃ g, w.heap.size + 1 = g := ⟨_, rfl⟩
  rw [hfb] at H ⊢
  generalize w.heap.size = kb at *
  clear hrc hfb
  obtain ⟨fd, fy, fc⟩ := f
  obtain ⟨hf1, hf2, hf3, hf4⟩ := hf
  simp only at hf1 hf2 hf3 hf4 H ⊢
  have hzero : ∀ u : World, (zeroValue 3).run Try.prog u = .ok (.int .i64 0) u := fun u => by go_simp
  by_cases hk0 : K = 0
  · subst hk0
    have c0 := (H.front 3 rfl).cells
    have c1 := (H.front 1 rfl).cells
    go_wp2_with (refine wpList_store_blk rfl _ _ rfl rfl H [.bool fd, .int .i64 fy, .int .i64 fc] rfl (by kernel_rfl) (by simp) (by simp [Value.oneCell']) _ rfl ?_; clear H c0 c1; intro w6 H)
    refine bodyPost_ret (results_cell_row rfl _ _ rc _ _ _ _ rfl H.block.1 Try.underlying30 rfl (by kernel_rfl)) rfl ?_
    exact ⟨_, rfl, by simp [boundF], FIN.out _ c late (by omega) (by simpa [lateF] using H.drop.drop.drop)⟩
  · have hk1 : (K == 0) = false := by simpa using hk0
    have hk2 : 0 < K := by omega
    have hkw : IntKind.i64.wrap (K - 1) = K - 1 := IntWalk.i64_in _ ⟨by omega, by omega⟩
    clear hk0
    have c0 := (H.front 3 rfl).cells
    go_upto_region 3 with (fail)
    clear c0
    refine wp_region_calm (fun w1 => Own w0 w1 (blk rc (.cells #[.bool false, .int .i64 0, .int .i64 0] 30) :: blk fb (.cells #[.bool fd, .int .i64 fy, .int .i64 fc] 30) :: blk kb (.cells #[.int .i64 cl1, .int .i64 cl2] 56) :: blk g (.cells #[.int .i64 K, .int .i64 D, vf, .map (some b), vd, .int .i64 k] 54) :: slc 73 4 vd m.length (rows DueP.icell m) :: sld 30 3 vf F.length (rows fcell F) :: mpi Try.prog 56 3 k2 b c late :: ps)) 12 (by kernel_rfl) (by kernel_rfl) H.drew ?_
    simp only [List.take_succ_cons, List.take_zero, List.drop_succ_cons, List.drop_zero]
    repeat
      first
      | (refine calm_value (v := ?_) (by decide) rfl (fun σ w1 hS => ?_) ?_
         rotate_left
         · have c0 := (hS.front 3 rfl).cells; have c1 := (hS.front 2 rfl).cells
           first | (go_simp; rfl) | rfl
         simp only [Act.put, List.setIfInBounds_toArray, List.set_cons_zero, List.set_cons_succ])
      | (refine calm_skip (by decide) rfl ?_
         simp only [Act.put, List.setIfInBounds_toArray, List.set_cons_zero, List.set_cons_succ])
    refine calm_lookup (b := b) (k := (cl1, cl2)) (enc := k2) (n := c) (g := late) (w0 := w0) _ _ (by decide) rfl rfl (by first | rfl | (go_simp; rfl)) (by first | rfl | (go_simp; rfl)) (fun σ w hs => ⟨_, hs.front 6 rfl⟩) k2_law Try.underlying49 Try.underlying3 hzero HKL.out ?_
    rw [hln.out]
    simp only [Act.put, List.setIfInBounds_toArray, List.set_cons_zero, List.set_cons_succ]
    repeat
      first
      | (refine calm_value (v := ?_) (by decide) rfl (fun σ w1 hS => ?_) ?_
         rotate_left
         · have c0 := (hS.front 3 rfl).cells; have c1 := (hS.front 2 rfl).cells
           first | (go_simp; rfl) | rfl
         simp only [Act.put, List.setIfInBounds_toArray, List.set_cons_zero, List.set_cons_succ])
      | (refine calm_skip (by decide) rfl ?_
         simp only [Act.put, List.setIfInBounds_toArray, List.set_cons_zero, List.set_cons_succ])
    refine calm_nil ?_
    intro wd HD
    clear H
    go_upto_if 26 with (fail)
    go_cut [] (fun wx => ∃ (d1 : Bool) (y1 : Int), Hid (boundF K D ln ⟨fd, fy, fc⟩ = ⟨d1, y1, fc⟩) ∧ y1 ≤ 64 ∧ 0 ≤ y1 ∧ Own w0 wx (blk rc (.cells #[.bool false, .int .i64 0, .int .i64 0] 30) :: blk fb (.cells #[.bool d1, .int .i64 y1, .int .i64 fc] 30) :: blk kb (.cells #[.int .i64 cl1, .int .i64 cl2] 56) :: blk g (.cells #[.int .i64 K, .int .i64 D, vf, .map (some b), vd, .int .i64 k] 54) :: slc 73 4 vd m.length (rows DueP.icell m) :: sld 30 3 vf F.length (rows fcell F) :: mpi Try.prog 56 3 k2 b c late :: ps))
    case first =>
      by_cases hge : K - 1 ≤ ln
      · by_cases hmin : D < fy
        all_goals
          go_upto_region 4 with (fail)
          refine wp_region_new (fun σ w1 => Own w0 w1 (blk rc (.cells #[.bool false, .int .i64 0, .int .i64 0] 30) :: blk fb (.cells #[.bool (if (σ 9).isSome then false else fd), .int .i64 fy, .int .i64 fc] 30) :: blk kb (.cells #[.int .i64 cl1, .int .i64 cl2] 56) :: blk g (.cells #[.int .i64 K, .int .i64 D, vf, .map (some b), vd, .int .i64 k] 54) :: slc 73 4 vd m.length (rows DueP.icell m) :: sld 30 3 vf F.length (rows fcell F) :: mpi Try.prog 56 3 k2 b c late :: ps)) 10 [9] (by kernel_rfl) (by kernel_rfl) HD.drew ?_
          simp only [List.take_succ_cons, List.take_zero, List.drop_succ_cons, List.drop_zero]
          repeat
            first
            | (refine calm_value (v := ?_) (by decide) rfl (fun σ w1 hS => ?_) ?_
               rotate_left
               · have c0 := (hS.front 3 rfl).cells; have c1 := (hS.front 1 rfl).cells
                 first | (go_simp; rfl) | rfl
               simp only [Act.put, List.setIfInBounds_toArray, List.set_cons_zero, List.set_cons_succ])
            | (refine calm_skip (by decide) rfl ?_
               simp only [Act.put, List.setIfInBounds_toArray, List.set_cons_zero, List.set_cons_succ])
          refine calm_new (by decide) (new_store _ _ rfl (by first | rfl | (go_simp; rfl)) [.bool false] rfl (by kernel_rfl) (by simp [Value.oneCell']) (fun σ w1 hs => ⟨_, _, hs.front 1 rfl, by simp, fun w' h => by
            have h2 := h.swap
            simpa [Sig.upd] using h2⟩)) ?_
          refine calm_nil ?_
          intro σ wd1 hσ H
          have h9 := hσ 9 (by decide)
          rw [if_pos h9] at H
          simp only [putNew, List.foldl_cons, List.foldl_nil]
          go_wp2_with (refine wpList_store_int rfl _ _ rfl rfl (H.front 1 rfl) rfl (by kernel_rfl) (by simp) ?_; clear H; intro w3 H)
          go_meet
          refine ⟨false, _, Lib.hid ?_, ?_, ?_, H.swap⟩
          · simp only [boundF, clipI]
            rw [if_neg (by omega), if_pos (by omega), if_neg (by omega)]
            split <;> first | rfl | (exfalso; omega)
          all_goals first | omega | (split <;> omega)
      · have hge2 : ln < K - 1 := by omega
        go_wp2_with fail
        go_meet
        exact ⟨fd, fy, Lib.hid (by simp only [boundF]; rw [if_neg (by omega), if_neg (by omega)]), by omega, by omega, HD⟩
    case rest =>
      clear HD
      obtain ⟨d1, y1, hbf, hy1, hy0, H⟩ := hcut
      obtain ⟨lt, hlt⟩ : ∃ lt, Hid (decide (isLate D ⟨d1, y1, fc⟩) = lt) := ⟨_, rfl⟩
      have hlt2 : lt = true ∧ d1 = true ∨ lt = true ∧ d1 = false ∧ D < y1 ∨ lt = false ∧ d1 = false ∧ y1 ≤ D := by
        have h := hlt.out
        cases d1 <;> simp [isLate] at h
        · rcases Classical.em (D < y1) with h1 | h1
          · exact .inr (.inl ⟨by simp [← h, h1], rfl, h1⟩)
          · exact .inr (.inr ⟨by simp [← h, h1], rfl, by omega⟩)
        · exact .inl ⟨by simpa using h, rfl⟩
      have HLT := Lib.hid hlt2
      clear hlt2
      go_upto_region 5 with (fail)
      go_cut [48] (fun s48 wx => s48 = .bool lt ∧ Own w0 wx (blk rc (.cells #[.bool false, .int .i64 0, .int .i64 0] 30) :: blk fb (.cells #[.bool d1, .int .i64 y1, .int .i64 fc] 30) :: blk kb (.cells #[.int .i64 cl1, .int .i64 cl2] 56) :: blk g (.cells #[.int .i64 K, .int .i64 D, vf, .map (some b), vd, .int .i64 k] 54) :: slc 73 4 vd m.length (rows DueP.icell m) :: sld 30 3 vf F.length (rows fcell F) :: mpi Try.prog 56 3 k2 b c late :: ps))
      case first =>
        refine wp_region_calm (fun w1 => Own w0 w1 (blk rc (.cells #[.bool false, .int .i64 0, .int .i64 0] 30) :: blk fb (.cells #[.bool d1, .int .i64 y1, .int .i64 fc] 30) :: blk kb (.cells #[.int .i64 cl1, .int .i64 cl2] 56) :: blk g (.cells #[.int .i64 K, .int .i64 D, vf, .map (some b), vd, .int .i64 k] 54) :: slc 73 4 vd m.length (rows DueP.icell m) :: sld 30 3 vf F.length (rows fcell F) :: mpi Try.prog 56 3 k2 b c late :: ps)) 11 (by kernel_rfl) (by kernel_rfl) H.drew ?_
        simp only [List.take_succ_cons, List.take_zero, List.drop_succ_cons, List.drop_zero]
        rcases HLT.out with ⟨rfl, rfl⟩ | ⟨rfl, rfl, hy⟩ | ⟨rfl, rfl, hy⟩
        all_goals
          repeat
            first
            | (refine calm_value (v := ?_) (by decide) rfl (fun σ w1 hS => ?_) ?_
               rotate_left
               · have c0 := (hS.front 3 rfl).cells; have c1 := (hS.front 1 rfl).cells
                 first | (go_simp; rfl) | rfl
               simp only [Act.put, List.setIfInBounds_toArray, List.set_cons_zero, List.set_cons_succ])
            | (refine calm_skip (by decide) rfl ?_
               simp only [Act.put, List.setIfInBounds_toArray, List.set_cons_zero, List.set_cons_succ])
          refine calm_nil ?_
          intro wd1 HD
          clear H HLT
          go_wp2
          go_meet
          refine ⟨?_, HD⟩
          first | rfl | (simp; omega)
      case rest =>
        clear H HLT
        obtain ⟨rfl, H⟩ := hcut
        have fin2 : ∀ wz c', c' ≤ c + 1 → Own w0 wz (mpi Try.prog 56 3 k2 b c' (lateF K D (cl1, cl2) ⟨d1, y1, fc⟩ late) :: blk g (.cells #[.int .i64 K, .int .i64 D, vf, .map (some b), vd, .int .i64 k] 54) :: slc 73 4 vd m.length (rows DueP.icell m) :: sld 30 3 vf F.length (rows fcell F) :: ps) → Own w0 wz (NetP g K D F (lateF K D (cl1, cl2) (boundF K D ln ⟨fd, fy, fc⟩) late) (c + 1) M k :: ps) := by
          intro wz c' hc h
          rw [hbf.out]
          exact FIN.out wz c' _ hc ((((h.front 3 rfl).front 3 rfl).front 3 rfl))
        have FIN2 := Lib.hid fin2
        clear fin2 FIN
        cases lt with
        | false =>
          have e : lateF K D (cl1, cl2) ⟨d1, y1, fc⟩ late = fun x => if x = (cl1, cl2) then 0 else late x := by
            have hd : ¬ isLate D ⟨d1, y1, fc⟩ := by simpa using hlt.out
            simp only [lateF]
            rw [if_neg (by omega)]
            simp [hd]
          rw [e] at FIN2
          clear e
          go_upto_region 7 with (fail)
          refine wp_region_calm (fun w1 => Own w0 w1 (blk rc (.cells #[.bool false, .int .i64 0, .int .i64 0] 30) :: blk fb (.cells #[.bool d1, .int .i64 y1, .int .i64 fc] 30) :: blk kb (.cells #[.int .i64 cl1, .int .i64 cl2] 56) :: blk g (.cells #[.int .i64 K, .int .i64 D, vf, .map (some b), vd, .int .i64 k] 54) :: slc 73 4 vd m.length (rows DueP.icell m) :: sld 30 3 vf F.length (rows fcell F) :: mpi Try.prog 56 3 k2 b c late :: ps)) 5 (by kernel_rfl) (by kernel_rfl) H.drew ?_
          simp only [List.take_succ_cons, List.take_zero, List.drop_succ_cons, List.drop_zero]
          repeat
            first
            | (refine calm_value (v := ?_) (by decide) rfl (fun σ w1 hS => ?_) ?_
               rotate_left
               · have c0 := (hS.front 3 rfl).cells; have c1 := (hS.front 2 rfl).cells
                 first | (go_simp; rfl) | rfl
               simp only [Act.put, List.setIfInBounds_toArray, List.set_cons_zero, List.set_cons_succ])
            | (refine calm_skip (by decide) rfl ?_
               simp only [Act.put, List.setIfInBounds_toArray, List.set_cons_zero, List.set_cons_succ])
          refine calm_nil ?_
          intro wd1 HD
          clear H
          go_upto_region 8 with (refine wpList_delete_mpi (a := (cl1, cl2)) rfl _ _ rfl (HD.front 6 rfl) k2_law Try.underlying49 k2_inj rfl rfl HKL.out ?_; clear HD; intro w4 H)
          have c1 := (H.front 2 rfl).cells
          go_wp2_with (refine wpList_store_blk rfl _ _ rfl rfl (H.front 1 rfl) [.bool d1, .int .i64 y1, .int .i64 fc] rfl (by kernel_rfl) (by simp) (by simp [Value.oneCell']) _ rfl ?_; clear H c1; intro w6 H)
          refine bodyPost_ret (results_cell_row rfl _ _ rc _ _ _ _ rfl H.block.1 Try.underlying30 rfl (by kernel_rfl)) rfl ?_
          refine ⟨_, rfl, by rw [hbf.out]; rfl, FIN2.out _ c (by omega) ?_⟩
          exact ((((H.front 3 rfl).front 3 rfl).front 2 rfl).drop.drop.drop)
        | true =>
          have e : lateF K D (cl1, cl2) ⟨d1, y1, fc⟩ late = fun x => if x = (cl1, cl2) then ln + 1 else late x := by
            have hd : isLate D ⟨d1, y1, fc⟩ := by simpa using hlt.out
            simp only [lateF]
            rw [if_neg (by omega), hln.out]
            simp [hd]
          rw [e] at FIN2
          clear e
          go_upto_region 6 with (fail)
          obtain ⟨st, w1, hent, HE, hst⟩ := mpi_entry (H.drew.front 6 rfl) k2_klaw Try.underlying49 Try.underlying3 hzero (by omega) k2_inj HKL.out (by rw [hln.out]; omega)
          rw [hln.out] at hent
          have HST := Lib.hid hst
          have HENT := Lib.hid hent
          have hbb : ∀ (σ : Sig) (w : World), w = (if (σ 7).isSome then w1 else wc.drew) → ∃ n, Own w0 w (mpi Try.prog 56 3 k2 b n late :: blk rc (.cells #[.bool false, .int .i64 0, .int .i64 0] 30) :: blk fb (.cells #[.bool d1, .int .i64 y1, .int .i64 fc] 30) :: blk kb (.cells #[.int .i64 cl1, .int .i64 cl2] 56) :: blk g (.cells #[.int .i64 K, .int .i64 D, vf, .map (some b), vd, .int .i64 k] 54) :: slc 73 4 vd m.length (rows DueP.icell m) :: sld 30 3 vf F.length (rows fcell F) :: ps) := by
            rintro σ w rfl
            split
            · exact ⟨_, HE⟩
            · exact ⟨_, H.drew.front 6 rfl⟩
          have HB := Lib.hid hbb
          clear hbb hst hent
          refine Trk.wp_region_new (fun σ w' => w' = (if (σ 7).isSome then w1 else wc.drew)) 9 [] [7] (by intro k hk; simp at hk; subst hk; exact ⟨by omega, by simp, fun o ho => by simp at ho; subst ho; rfl⟩) (by kernel_rfl) (by kernel_rfl) rfl ?_
          simp only [List.take_succ_cons, List.take_zero, List.drop_succ_cons, List.drop_zero]
          repeat
            first
            | (refine Trk.calm_value (v := ?_) (by decide) (by decide) rfl (fun σ w1 hS => ?_) ?_
               rotate_left
               · obtain ⟨_, HX⟩ := HB.out σ _ hS; clear hS; have c0 := (HX.front 4 rfl).cells; have c1 := (HX.front 3 rfl).cells
                 first | (go_simp; rfl) | rfl
               simp only [Act.put, List.setIfInBounds_toArray, List.set_cons_zero, List.set_cons_succ])
            | (refine Trk.calm_skip (by decide) rfl ?_
               simp only [Act.put, List.setIfInBounds_toArray, List.set_cons_zero, List.set_cons_succ])
          refine tcalm_lookup (b := b) (k := (cl1, cl2)) (enc := k2) (g := late) (w0 := w0) _ _ (by decide) (by decide) rfl rfl (by first | rfl | (go_simp; rfl)) (by first | rfl | (go_simp; rfl)) (fun σ w hs => (by obtain ⟨n, h⟩ := HB.out σ w hs; exact ⟨n, _, h⟩)) k2_law Try.underlying49 Try.underlying3 hzero HKL.out ?_
          rw [hln.out]
          simp only [Act.put, List.setIfInBounds_toArray, List.set_cons_zero, List.set_cons_succ]
          repeat
            first
            | (refine Trk.calm_value (v := ?_) (by decide) (by decide) rfl (fun σ w1 hS => ?_) ?_
               rotate_left
               · obtain ⟨_, HX⟩ := HB.out σ _ hS; clear hS; have c0 := (HX.front 4 rfl).cells; have c1 := (HX.front 3 rfl).cells
                 first | (go_simp; rfl) | rfl
               simp only [Act.put, List.setIfInBounds_toArray, List.set_cons_zero, List.set_cons_succ])
            | (refine Trk.calm_skip (by decide) rfl ?_
               simp only [Act.put, List.setIfInBounds_toArray, List.set_cons_zero, List.set_cons_succ])
          refine tcalm_entry (mv := .map (some b)) (kv := k2 (cl1, cl2)) (v := .tuple #[.int .i64 ln, goInt st]) _ _ (by decide) (by decide) rfl rfl (by first | rfl | (go_simp; rfl)) (by first | rfl | (go_simp; rfl)) (fun σ w hs hn => ⟨w1, by rw [hn] at hs; rw [hs]; exact HENT.out, by simp [Sig.upd]⟩) ?_
          simp only [Act.put, List.setIfInBounds_toArray, List.set_cons_zero, List.set_cons_succ]
          repeat
            first
            | (refine Trk.calm_value (v := ?_) (by decide) (by decide) rfl (fun σ w1 hS => ?_) ?_
               rotate_left
               · clear hS
                 first | (go_simp; rfl) | rfl
               simp only [Act.put, List.setIfInBounds_toArray, List.set_cons_zero, List.set_cons_succ])
            | (refine Trk.calm_skip (by decide) rfl ?_
               simp only [Act.put, List.setIfInBounds_toArray, List.set_cons_zero, List.set_cons_succ])
          refine Trk.calm_nil ?_
          intro σ wd1 _ hσ hwd
          have h7 := hσ 7 (by decide)
          rw [if_pos h7] at hwd
          subst hwd
          clear hσ h7
          have hw1 : IntKind.i64.wrap (ln + 1) = ln + 1 := IntWalk.i64_in _ ⟨by omega, by omega⟩
          simp only [putNew, List.foldl_nil]
          go_upto_region 8 with (refine wpList_estore_mpi (a := (cl1, cl2)) rfl _ _ _ rfl HST rfl rfl rfl (by omega) ?_; clear H HE; intro w4 H)
          try rw [hw1] at H
          have c1 := (H.front 2 rfl).cells
          go_wp2_with (refine wpList_store_blk rfl _ _ rfl rfl (H.front 1 rfl) [.bool d1, .int .i64 y1, .int .i64 fc] rfl (by kernel_rfl) (by simp) (by simp [Value.oneCell']) _ rfl ?_; clear H c1; intro w6 H)
          refine bodyPost_ret (results_cell_row rfl _ _ rc _ _ _ _ rfl H.block.1 Try.underlying30 rfl (by kernel_rfl)) rfl ?_
          refine ⟨_, rfl, by rw [hbf.out]; rfl, FIN2.out _ (c + 1) (by omega) ?_⟩
          exact ((((H.front 3 rfl).front 3 rfl).front 2 rfl).drop.drop.drop)
end
end Go.Proofs.Ytnpflnplpipipaa
