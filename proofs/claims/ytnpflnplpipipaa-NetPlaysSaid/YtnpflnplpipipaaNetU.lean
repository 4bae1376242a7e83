/-
  net, the document's answer: the walk of Send.
-/
import Derived.Test.YtnpflnplpipipaaNetS
import Derived.Test.YtnpflnplpipipaaNetE
namespace Go.Proofs.Ytnpflnplpipipaa
open Go.RowKit Go.Maps

theorem rows_set_cell {α : Type} (f : α → List Value) {k : Nat} (hf : ∀ x, (f x).length = k) {l : List α} {i j : Nat} {x y : α} {u : Value} (hx : l[i]? = some x) (hj : j < k) (hy : f y = (f x).set j u) :
    (rows f l).set (i * k + j) u = rows f (l.set i y) := by
  obtain ⟨hi, rfl⟩ := List.getElem?_eq_some_iff.1 hx
  rw [rows_set f hf hi y, hy]
  have hlen : i * k + j < (rows f l).length := by
    rw [rows_length f hf]
    have := Nat.mul_le_mul_right k (show i + 1 ≤ l.length by omega)
    rw [Nat.add_mul, Nat.one_mul] at this
    omega
  apply List.ext_getElem?
  intro t
  have hlx : (f l[i]).length = k := hf _
  rcases Nat.lt_or_ge t (i * k) with h1 | h1
  · rw [List.getElem?_set_ne (by omega), List.append_assoc, List.getElem?_append_left (by rw [List.length_take]; omega), List.getElem?_take, if_pos h1]
  · rcases Nat.lt_or_ge t (i * k + k) with h2 | h2
    · rw [List.append_assoc, List.getElem?_append_right (by rw [List.length_take]; omega), List.length_take, Nat.min_eq_left (by omega), List.getElem?_append_left (by rw [List.length_set, hlx]; omega)]
      have hg := rows_get f hf hx (t - i * k) (by omega)
      rw [show i * k + (t - i * k) = t by omega] at hg
      by_cases ht : t = i * k + j
      · subst ht
        rw [List.getElem?_set_self hlen, show i * k + j - i * k = j by omega, List.getElem?_set_self (by rw [hlx]; exact hj)]
      · rw [List.getElem?_set_ne (by omega), List.getElem?_set_ne (by omega), hg]
    · rw [List.getElem?_set_ne (by omega), List.getElem?_append_right (by simp only [List.length_append, List.length_take, List.length_set, hlx]; omega), List.getElem?_drop]
      congr 1
      simp only [List.length_append, List.length_take, List.length_set, hlx]
      omega

section
variable {w0 w : World} {ps : List Piece} {g : Nat} {K D : Int} {F : List Fa} {late : Int × Int → Int} {m : Nat} {M : List (It (Int × ByteArray))}

set_option maxRecDepth 100000 in
set_option maxHeartbeats 6400000 in
theorem rsend_any (H : Own w0 w (RNetP g K D F late m M :: ps)) {now : Nat} (hnow : now ≤ 1000) (dst cl : Int) (s : ByteArray) (k : Nat) (hD : 0 ≤ D) (hD2 : D ≤ 64) (hK : 0 ≤ K) (hK2 : K ≤ 9223372036854775807)
    (hl0 : 0 ≤ late (dst, cl)) (hl : late (dst, cl) ≤ 1000000) (hM : M.length ≤ 5000) (hF : F.length ≤ 1000000) (hm : m ≤ 10000) :
    Calls Try.prog 14 #[.pointer (some ⟨g, 0, none⟩), .int .i64 now, .int .i64 dst, .int .i64 cl, .string s] w
      (Ret fun v w' => v = fval (boundF K D (late (dst, cl)) (fateOf F)) ∧ Own w0 w' (RNetP g K D F.tail (lateF K D (dst, cl) (boundF K D (late (dst, cl)) (fateOf F)) late) (m + 1) (M ++ itemsOf now dst s k (boundF K D (late (dst, cl)) (fateOf F))) :: ps)) := by
  have HO := rnet_open H
  clear H
  obtain ⟨v, u, z, L, hL, hLm, H⟩ := HO
  have HL := Lib.hid hL
  clear hL
  obtain ⟨f0, hf0⟩ : ∃ f, Hid (fateOf F = f) := ⟨_, rfl⟩
  have hok0 : FOk f0 := by rw [← hf0.out]; exact fateOf_ok F
  obtain ⟨f, hf⟩ : ∃ f, Hid (boundF K D (late (dst, cl)) f0 = f) := ⟨_, rfl⟩
  have hok : FOk f := by rw [← hf.out]; exact boundF_ok hok0 hD hD2
  rw [hf0.out, hf.out]
  obtain ⟨L2, hL2⟩ : ∃ L, Hid (lateF K D (dst, cl) f late = L) := ⟨_, rfl⟩
  rw [hL2.out]
  obtain ⟨f0d, f0y, f0c⟩ := f0
  obtain ⟨o1, o2, o3, o4⟩ := hok
  obtain ⟨p1, p2, p3, p4⟩ := hok0
  obtain ⟨fd, fy, fc⟩ := f
  simp only at o1 o2 o3 o4 p1 p2 p3 p4
  obtain ⟨ln, hln⟩ : ∃ ln, Hid (late (dst, cl) = ln) := ⟨_, rfl⟩
  rw [hln.out] at hl hl0
  go_enter Try.func14, Try.ntmps14
  go_upto_region 2 with (fail)
  replace H := (H.alloc2 (.cells #[.bool false, .int .i64 0, .int .i64 0] 30) (.cells #[.bool false, .int .i64 0, .int .i64 0] 30))
  generalize ((w.alloc (.cells #[.bool false, .int .i64 0, .int .i64 0] 30)).alloc (.cells #[.bool false, .int .i64 0, .int .i64 0] 30)) = wa at *
  obtain ⟨fb, hfb⟩ : ∃ fb, w.heap.size + 1 = fb := ⟨_, rfl⟩
  rw [hfb] at H ⊢
  generalize w.heap.size = rc at *
  clear hfb
  obtain ⟨av, cv, rfl, _⟩ := (H.front 3 rfl).drd.shape
  have c0 := (H.front 2 rfl).cells
  go_upto_if 21 with (fail)
  go_cut [] (fun wx => ∃ v', Own w0 wx (blk fb (.cells #[.bool f0d, .int .i64 f0y, .int .i64 f0c] 30) :: blk rc (.cells #[.bool false, .int .i64 0, .int .i64 0] 30) :: blk g (.cells #[.int .i64 K, .int .i64 D, v', u, z] 47) :: sld 30 3 v' F.tail.length (rows fcell F.tail) :: slc 67 3 u L.length (rows lcell L) :: slc 69 3 z M.length (rows pcell M) :: ps))
  case first =>
    cases F with
    | nil =>
      have e := hf0.out
      simp only [fateOf, Fa.mk.injEq] at e
      obtain ⟨rfl, rfl, rfl⟩ := e
      go_wp2_with fail
      go_meet
      exact ⟨_, H⟩
    | cons f F =>
      obtain ⟨n, hn⟩ : ∃ n, Hid (F.length = n) := ⟨_, rfl⟩
      have hnl : (f :: F).length = n + 1 := by rw [List.length_cons, hn.out]
      rw [hnl] at H hF c0 ⊢
      obtain ⟨b1, o1', cp, e, _⟩ := (H.front 3 rfl).drd.some (by rw [rows_length fcell fcell_length]; simp)
      cases e
      have hr := (H.front 3 rfl).drd
      have r0 := hr.cell ((rows_get fcell fcell_length (l := f :: F) (i := 0) rfl 0 (by omega)).trans rfl)
      have r1 := hr.cell ((rows_get fcell fcell_length (l := f :: F) (i := 0) rfl 1 (by omega)).trans rfl)
      have r2 := hr.cell ((rows_get fcell fcell_length (l := f :: F) (i := 0) rfl 2 (by omega)).trans rfl)
      simp only [Nat.zero_mul, Nat.zero_add, Nat.add_zero] at r0 r1 r2
      clear hr
      obtain ⟨xd, xy, xc⟩ := f
      simp only at r0 r1 r2
      have he := hf0.out
      simp only [fateOf, Fa.mk.injEq] at he
      obtain ⟨rfl, e1, e2⟩ := he
      have E1 := Lib.hid e1
      have E2 := Lib.hid e2
      clear e1 e2
      go_upto_region 4 with (fail)
      have hx : rows fcell (⟨xd, xy, xc⟩ :: F) = fcell ⟨xd, xy, xc⟩ ++ rows fcell F := rfl
      rw [hx] at H
      replace H := (H.front 3 rfl).dtail_one rfl
      obtain ⟨xb, hxb⟩ : ∃ xb, wa.heap.size = xb := ⟨_, rfl⟩
      replace H := (H.alloc (.cells #[.bool xd, .int .i64 xy, .int .i64 xc] 30))
      rw [hxb] at H ⊢
      generalize wa.alloc (.cells #[.bool xd, .int .i64 xy, .int .i64 xc] 30) = wb at *
      clear hxb r0 r1 r2 c0
      have c0 := (H.front 4 rfl).cells
      have c1 := H.cells
      obtain ⟨va, hva⟩ : ∃ va, Hid ((if cv = 1 then some (⟨b1, o1', none⟩ : Addr) else some ⟨b1, o1' + 3, none⟩) = va) := ⟨_, rfl⟩
      go_upto_region 5 with (refine wpList_store_slice rfl _ _ rfl rfl (H.front 4 rfl) rfl (by kernel_rfl) (by simp) ?_; clear H; intro w5 H)
      rw [hva.out] at H ⊢
      have H : Own w0 w5 (blk g (.cells #[.int .i64 K, .int .i64 D, .slice va n (cv - 1), u, z] 47) :: blk xb (.cells #[.bool xd, .int .i64 xy, .int .i64 xc] 30) :: sld 30 3 (.slice va n (cv - 1)) n (rows fcell F) :: blk fb (.cells #[.bool false, .int .i64 0, .int .i64 0] 30) :: blk rc (.cells #[.bool false, .int .i64 0, .int .i64 0] 30) :: slc 67 3 u L.length (rows lcell L) :: slc 69 3 z M.length (rows pcell M) :: ps) := H
      replace H := ((((H.front 4 rfl).front 4 rfl).front 3 rfl))
      clear c0 c1 hva
      refine wp_region_calm (fun w1 => Own w0 w1 (blk xb (.cells #[.bool xd, .int .i64 xy, .int .i64 xc] 30) :: blk fb (.cells #[.bool false, .int .i64 0, .int .i64 0] 30) :: blk rc (.cells #[.bool false, .int .i64 0, .int .i64 0] 30) :: blk g (.cells #[.int .i64 K, .int .i64 D, .slice va n (cv - 1), u, z] 47) :: sld 30 3 (.slice va n (cv - 1)) n (rows fcell F) :: slc 67 3 u L.length (rows lcell L) :: slc 69 3 z M.length (rows pcell M) :: ps)) 9 (by kernel_rfl) (by kernel_rfl) H.drew ?_
      simp only [List.take_succ_cons, List.take_zero, List.drop_succ_cons, List.drop_zero]
      repeat
        first
        | (refine calm_value (v := ?_) (by decide) rfl (fun σ w1 hS => ?_) ?_
           rotate_left
           · have c0 := hS.cells
             first | (go_simp; rfl) | rfl
           simp only [Act.put, List.setIfInBounds_toArray, List.set_cons_zero, List.set_cons_succ])
        | (refine calm_skip (by decide) rfl ?_
           simp only [Act.put, List.setIfInBounds_toArray, List.set_cons_zero, List.set_cons_succ])
      refine calm_call (v := .int .i64 f0y) (by decide) rfl (fun w1 => (by go_simp; first | exact ⟨rfl, rfl⟩ | rfl)) (fun σ w1 hS => ?_) ?_
      · refine (rclip_any xy 0 64 w1).mono ?_
        rintro e w2 ⟨rfl, rfl⟩
        exact ⟨by rw [E1.out], hS⟩
      simp only [Act.put, List.setIfInBounds_toArray, List.set_cons_zero, List.set_cons_succ]
      repeat
        first
        | (refine calm_value (v := ?_) (by decide) rfl (fun σ w1 hS => ?_) ?_
           rotate_left
           · have c0 := hS.cells
             first | (go_simp; rfl) | rfl
           simp only [Act.put, List.setIfInBounds_toArray, List.set_cons_zero, List.set_cons_succ])
        | (refine calm_skip (by decide) rfl ?_
           simp only [Act.put, List.setIfInBounds_toArray, List.set_cons_zero, List.set_cons_succ])
      refine calm_call (v := .int .i64 f0c) (by decide) rfl (fun w1 => (by go_simp; first | exact ⟨rfl, rfl⟩ | rfl)) (fun σ w1 hS => ?_) ?_
      · refine (rclip_any xc 0 3 w1).mono ?_
        rintro e w2 ⟨rfl, rfl⟩
        exact ⟨by rw [E2.out], hS⟩
      simp only [Act.put, List.setIfInBounds_toArray, List.set_cons_zero, List.set_cons_succ]
      repeat
        first
        | (refine calm_value (v := ?_) (by decide) rfl (fun σ w1 hS => ?_) ?_
           rotate_left
           · have c0 := hS.cells
             first | (go_simp; rfl) | rfl
           simp only [Act.put, List.setIfInBounds_toArray, List.set_cons_zero, List.set_cons_succ])
        | (refine calm_skip (by decide) rfl ?_
           simp only [Act.put, List.setIfInBounds_toArray, List.set_cons_zero, List.set_cons_succ])
      refine calm_nil ?_
      intro wd HD
      clear H
      go_wp2_with (refine wpList_store_blk rfl _ _ rfl rfl (HD.front 1 rfl) [.bool xd, .int .i64 f0y, .int .i64 f0c] rfl (by kernel_rfl) (by simp) (by simp [Value.oneCell']) _ rfl ?_; clear HD; intro w6 H)
      go_meet
      exact ⟨.slice va n (cv - 1), by simp only [List.tail_cons, hn.out]; exact ((H.front 1 rfl).drop)⟩
  case rest =>
    clear H c0
    obtain ⟨v', H⟩ := hcut
    have c0 := (H.front 2 rfl).cells
    go_upto_if 50 with (fail)
    go_cut [] (fun wx => ∃ (u' : Value) (L' : List Lt), Hid (∀ c, lookL L' c = L2 c) ∧ L'.length ≤ m + 1 ∧ Own w0 wx (blk fb (.cells #[.bool fd, .int .i64 fy, .int .i64 fc] 30) :: blk rc (.cells #[.bool false, .int .i64 0, .int .i64 0] 30) :: blk g (.cells #[.int .i64 K, .int .i64 D, v', u', z] 47) :: sld 30 3 v' F.tail.length (rows fcell F.tail) :: slc 67 3 u' L'.length (rows lcell L') :: slc 69 3 z M.length (rows pcell M) :: ps))
    case first =>
      by_cases hk0 : K = 0
      · have e := hf.out
        simp only [boundF, if_pos hk0, Fa.mk.injEq] at e
        obtain ⟨rfl, rfl, rfl⟩ := e
        have e2 : L2 = late := by have := hL2.out; simpa [lateF, hk0] using this.symm
        subst e2
        subst hk0
        go_wp2_with fail
        go_meet
        exact ⟨u, L, HL, by omega, H⟩
      · have hk2 : 0 < K := by omega
        have hkw : IntKind.i64.wrap (K - 1) = K - 1 := IntWalk.i64_in _ ⟨by omega, by omega⟩
        have hfe : (K - 1 ≤ ln ∧ fd = false ∧ clipI f0y 0 D = fy ∧ f0c = fc) ∨ (ln < K - 1 ∧ f0d = fd ∧ f0y = fy ∧ f0c = fc) := by
          have e := hf.out
          rw [hln.out] at e
          simp only [boundF, if_neg hk0] at e
          split at e
          · next h => simp only [Fa.mk.injEq] at e; exact .inl ⟨h, e.1.symm, e.2.1, e.2.2⟩
          · next h => simp only [Fa.mk.injEq] at e; exact .inr ⟨by omega, e.1, e.2.1, e.2.2⟩
        have HFE := Lib.hid hfe
        clear hfe hk0
        go_wp2_with fail
        refine (rlate_any (v := v') HL.out (by omega) dst cl (((((H.front 5 rfl).front 5 rfl).front 5 rfl).front 5 rfl))).mono ?_
        rintro e w3 ⟨_, rfl, i, u', L', rfl, hL', hlen', hat, hbe, H3⟩
        clear H c0
        rw [hln.out] at hat
        have HAT := Lib.hid hat
        have HBE := Lib.hid hbe
        have HL' := Lib.hid hL'
        have hil : i < L'.length := (List.getElem?_eq_some_iff.1 hat).1
        have hlen'' : L'.length ≤ m + 1 := by omega
        clear hat hbe hL' HL
        obtain ⟨gl, cgl, rfl, _⟩ := (H3.front 2 rfl).at (by rw [rows_length lcell lcell_length]; omega)
        have H : Own w0 w3 (blk fb (.cells #[.bool f0d, .int .i64 f0y, .int .i64 f0c] 30) :: blk rc (.cells #[.bool false, .int .i64 0, .int .i64 0] 30) :: blk g (.cells #[.int .i64 K, .int .i64 D, v', (.slice (some ⟨gl, 0, none⟩) L'.length cgl), z] 47) :: sld 30 3 v' F.tail.length (rows fcell F.tail) :: slc 67 3 (.slice (some ⟨gl, 0, none⟩) L'.length cgl) L'.length (rows lcell L') :: slc 69 3 z M.length (rows pcell M) :: ps) := (((H3.front 5 rfl).front 5 rfl))
        clear H3
        go_upto_region 8 with (fail)
        refine wp_region_calm (fun w1 => Own w0 w1 (blk fb (.cells #[.bool f0d, .int .i64 f0y, .int .i64 f0c] 30) :: blk rc (.cells #[.bool false, .int .i64 0, .int .i64 0] 30) :: blk g (.cells #[.int .i64 K, .int .i64 D, v', (.slice (some ⟨gl, 0, none⟩) L'.length cgl), z] 47) :: sld 30 3 v' F.tail.length (rows fcell F.tail) :: slc 67 3 (.slice (some ⟨gl, 0, none⟩) L'.length cgl) L'.length (rows lcell L') :: slc 69 3 z M.length (rows pcell M) :: ps)) 14 (by kernel_rfl) (by kernel_rfl) H.drew ?_
        simp only [List.take_succ_cons, List.take_zero, List.drop_succ_cons, List.drop_zero]
        repeat
          first
          | (refine calm_value (v := ?_) (by decide) rfl (fun σ w1 hS => ?_) ?_
             rotate_left
             · have c0 := (hS.front 2 rfl).cells; have cx := (hS.front 4 rfl).rd.cell ((rows_get lcell lcell_length HAT.out 2 (by omega)).trans rfl); simp only [Nat.zero_add] at cx
               first | (go_simp; rfl) | rfl
             simp only [Act.put, List.setIfInBounds_toArray, List.set_cons_zero, List.set_cons_succ])
          | (refine calm_skip (by decide) rfl ?_
             simp only [Act.put, List.setIfInBounds_toArray, List.set_cons_zero, List.set_cons_succ])
        refine calm_nil ?_
        intro wd HD
        clear H
        go_upto_if 69 with (fail)
        go_cut [] (fun wx => Own w0 wx (blk fb (.cells #[.bool fd, .int .i64 fy, .int .i64 fc] 30) :: blk rc (.cells #[.bool false, .int .i64 0, .int .i64 0] 30) :: blk g (.cells #[.int .i64 K, .int .i64 D, v', (.slice (some ⟨gl, 0, none⟩) L'.length cgl), z] 47) :: sld 30 3 v' F.tail.length (rows fcell F.tail) :: slc 67 3 (.slice (some ⟨gl, 0, none⟩) L'.length cgl) L'.length (rows lcell L') :: slc 69 3 z M.length (rows pcell M) :: ps))
        case first =>
          rcases HFE.out with ⟨hge, rfl, hcl, rfl⟩ | ⟨hlt, rfl, rfl, rfl⟩
          · have HCL := Lib.hid hcl
            clear hcl HFE
            go_upto_region 10 with (refine wpList_store_bool rfl _ _ rfl rfl HD rfl (by kernel_rfl) (by simp) ?_; clear HD; intro w5 H)
            have H : Own w0 w5 (blk fb (.cells #[.bool false, .int .i64 f0y, .int .i64 f0c] 30) :: blk rc (.cells #[.bool false, .int .i64 0, .int .i64 0] 30) :: blk g (.cells #[.int .i64 K, .int .i64 D, v', (.slice (some ⟨gl, 0, none⟩) L'.length cgl), z] 47) :: sld 30 3 v' F.tail.length (rows fcell F.tail) :: slc 67 3 (.slice (some ⟨gl, 0, none⟩) L'.length cgl) L'.length (rows lcell L') :: slc 69 3 z M.length (rows pcell M) :: ps) := H
            refine wp_region_calm (fun w1 => Own w0 w1 (blk fb (.cells #[.bool false, .int .i64 f0y, .int .i64 f0c] 30) :: blk rc (.cells #[.bool false, .int .i64 0, .int .i64 0] 30) :: blk g (.cells #[.int .i64 K, .int .i64 D, v', (.slice (some ⟨gl, 0, none⟩) L'.length cgl), z] 47) :: sld 30 3 v' F.tail.length (rows fcell F.tail) :: slc 67 3 (.slice (some ⟨gl, 0, none⟩) L'.length cgl) L'.length (rows lcell L') :: slc 69 3 z M.length (rows pcell M) :: ps)) 8 (by kernel_rfl) (by kernel_rfl) H.drew ?_
            simp only [List.take_succ_cons, List.take_zero, List.drop_succ_cons, List.drop_zero]
            repeat
              first
              | (refine calm_value (v := ?_) (by decide) rfl (fun σ w1 hS => ?_) ?_
                 rotate_left
                 · have c0 := (hS.front 2 rfl).cells; have c1 := hS.cells
                   first | (go_simp; rfl) | rfl
                 simp only [Act.put, List.setIfInBounds_toArray, List.set_cons_zero, List.set_cons_succ])
              | (refine calm_skip (by decide) rfl ?_
                 simp only [Act.put, List.setIfInBounds_toArray, List.set_cons_zero, List.set_cons_succ])
            refine calm_call (v := .int .i64 fy) (by decide) rfl (fun w1 => (by go_simp; first | exact ⟨rfl, rfl⟩ | rfl)) (fun σ w1 hS => ?_) ?_
            · refine (rclip_any f0y 0 D w1).mono ?_
              rintro e w2 ⟨rfl, rfl⟩
              exact ⟨by rw [HCL.out], hS⟩
            simp only [Act.put, List.setIfInBounds_toArray, List.set_cons_zero, List.set_cons_succ]
            refine calm_nil ?_
            intro wd1 HD
            clear H
            go_wp2_with (refine wpList_store_int rfl _ _ rfl rfl HD rfl (by kernel_rfl) (by simp) ?_; clear HD; intro w6 H)
            go_meet
            exact H
          · clear HFE
            go_wp2_with fail
            go_meet
            exact HD
        case rest =>
          clear HD HFE
          have H := hcut
          clear hcut
          obtain ⟨lt, hlt⟩ : ∃ lt, Hid (decide (isLate D ⟨fd, fy, fc⟩) = lt) := ⟨_, rfl⟩
          have hlt2 : lt = true ∧ fd = true ∨ lt = true ∧ fd = false ∧ D < fy ∨ lt = false ∧ fd = false ∧ fy ≤ D := by
            have h := hlt.out
            cases fd <;> simp [isLate] at h
            · rcases Classical.em (D < fy) with h1 | h1
              · exact .inr (.inl ⟨by simp [← h, h1], rfl, h1⟩)
              · exact .inr (.inr ⟨by simp [← h, h1], rfl, by omega⟩)
            · exact .inl ⟨by simpa using h, rfl⟩
          have HLT := Lib.hid hlt2
          clear hlt2
          go_upto_region 11 with (fail)
          go_cut [91] (fun s91 wx => s91 = .bool lt ∧ Own w0 wx (blk fb (.cells #[.bool fd, .int .i64 fy, .int .i64 fc] 30) :: blk rc (.cells #[.bool false, .int .i64 0, .int .i64 0] 30) :: blk g (.cells #[.int .i64 K, .int .i64 D, v', (.slice (some ⟨gl, 0, none⟩) L'.length cgl), z] 47) :: sld 30 3 v' F.tail.length (rows fcell F.tail) :: slc 67 3 (.slice (some ⟨gl, 0, none⟩) L'.length cgl) L'.length (rows lcell L') :: slc 69 3 z M.length (rows pcell M) :: ps))
          case first =>
            refine wp_region_calm (fun w1 => Own w0 w1 (blk fb (.cells #[.bool fd, .int .i64 fy, .int .i64 fc] 30) :: blk rc (.cells #[.bool false, .int .i64 0, .int .i64 0] 30) :: blk g (.cells #[.int .i64 K, .int .i64 D, v', (.slice (some ⟨gl, 0, none⟩) L'.length cgl), z] 47) :: sld 30 3 v' F.tail.length (rows fcell F.tail) :: slc 67 3 (.slice (some ⟨gl, 0, none⟩) L'.length cgl) L'.length (rows lcell L') :: slc 69 3 z M.length (rows pcell M) :: ps)) 11 (by kernel_rfl) (by kernel_rfl) H.drew ?_
            simp only [List.take_succ_cons, List.take_zero, List.drop_succ_cons, List.drop_zero]
            rcases HLT.out with ⟨rfl, rfl⟩ | ⟨rfl, rfl, hy⟩ | ⟨rfl, rfl, hy⟩
            all_goals
              repeat
                first
                | (refine calm_value (v := ?_) (by decide) rfl (fun σ w1 hS => ?_) ?_
                   rotate_left
                   · have c0 := (hS.front 2 rfl).cells; have c1 := hS.cells
                     first | (go_simp; rfl) | rfl
                   simp only [Act.put, List.setIfInBounds_toArray, List.set_cons_zero, List.set_cons_succ])
                | (refine calm_skip (by decide) rfl ?_
                   simp only [Act.put, List.setIfInBounds_toArray, List.set_cons_zero, List.set_cons_succ])
              refine calm_nil ?_
              intro wd1 HD
              clear H HLT
              go_wp2
              go_meet
              refine ⟨?_, HD⟩
              first | rfl | (simp; omega)
          case rest =>
            clear H HLT
            obtain ⟨rfl, H⟩ := hcut
            have hrow : ∀ n : Int, (rows lcell L').set (i * 3 + 2) (.int .i64 n) = rows lcell (L'.set i ⟨dst, cl, n⟩) := fun n => rows_set_cell lcell lcell_length HAT.out (by omega) rfl
            have hlook : ∀ (n : Int) (c : Int × Int), lookL (L'.set i ⟨dst, cl, n⟩) c = if c = (dst, cl) then n else late c := fun n c => by
              have h1 := lookL_set HAT.out HBE.out n c
              simp only at h1
              rw [h1, HL'.out]
            have HROW := Lib.hid hrow
            have HLOOK := Lib.hid hlook
            clear hrow hlook
            cases lt with
            | false =>
              have e : ∀ c, lookL (L'.set i ⟨dst, cl, 0⟩) c = L2 c := fun c => by
                have hd : ¬ isLate D ⟨fd, fy, fc⟩ := by simpa using hlt.out
                have hK0 : ¬ K = 0 := by omega
                rw [HLOOK.out, ← hL2.out]
                simp only [lateF, if_neg hK0, if_neg hd]
              have E := Lib.hid e
              clear e HLOOK HL' HBE
              have c0 := (H.front 2 rfl).cells
              obtain ⟨nl, hnl⟩ : ∃ nl, Hid (L'.length = nl) := ⟨_, rfl⟩
              rw [hnl.out] at H c0 hil
              go_wp2_with (refine wpList_store_slcN (j := i * 3 + 2) rfl _ _ rfl rfl (H.front 4 rfl) (.int .i64 0) rfl (by kernel_rfl) (by omega) rfl ?_; clear H c0; intro w7 H)
              go_meet
              refine ⟨.slice (some ⟨gl, 0, none⟩) nl cgl, L'.set i ⟨dst, cl, 0⟩, E, by rw [List.length_set]; exact hlen'', ?_⟩
              rw [HROW.out] at H
              rw [List.length_set, hnl.out]
              exact (((((H.front 4 rfl).front 4 rfl).front 4 rfl).front 4 rfl))
            | true =>
              have e : ∀ c, lookL (L'.set i ⟨dst, cl, ln + 1⟩) c = L2 c := fun c => by
                have hd : isLate D ⟨fd, fy, fc⟩ := by simpa using hlt.out
                have hK0 : ¬ K = 0 := by omega
                rw [HLOOK.out, ← hL2.out]
                simp only [lateF, if_neg hK0, if_pos hd, hln.out]
              have E := Lib.hid e
              clear e HLOOK HL' HBE
              go_upto_region 12 with (fail)
              refine wp_region_calm (fun w1 => Own w0 w1 (blk fb (.cells #[.bool fd, .int .i64 fy, .int .i64 fc] 30) :: blk rc (.cells #[.bool false, .int .i64 0, .int .i64 0] 30) :: blk g (.cells #[.int .i64 K, .int .i64 D, v', (.slice (some ⟨gl, 0, none⟩) L'.length cgl), z] 47) :: sld 30 3 v' F.tail.length (rows fcell F.tail) :: slc 67 3 (.slice (some ⟨gl, 0, none⟩) L'.length cgl) L'.length (rows lcell L') :: slc 69 3 z M.length (rows pcell M) :: ps)) 14 (by kernel_rfl) (by kernel_rfl) H.drew ?_
              simp only [List.take_succ_cons, List.take_zero, List.drop_succ_cons, List.drop_zero]
              repeat
                first
                | (refine calm_value (v := ?_) (by decide) rfl (fun σ w1 hS => ?_) ?_
                   rotate_left
                   · have c0 := (hS.front 2 rfl).cells; have cx := (hS.front 4 rfl).rd.cell ((rows_get lcell lcell_length HAT.out 2 (by omega)).trans rfl); simp only [Nat.zero_add] at cx
                     first | (go_simp; rfl) | rfl
                   simp only [Act.put, List.setIfInBounds_toArray, List.set_cons_zero, List.set_cons_succ])
                | (refine calm_skip (by decide) rfl ?_
                   simp only [Act.put, List.setIfInBounds_toArray, List.set_cons_zero, List.set_cons_succ])
              refine calm_nil ?_
              intro wd HD
              clear H
              have H := HD
              clear HD
              have hw1 : IntKind.i64.wrap (ln + 1) = ln + 1 := IntWalk.i64_in _ ⟨by omega, by omega⟩
              rw [hw1]
              obtain ⟨nl, hnl⟩ : ∃ nl, Hid (L'.length = nl) := ⟨_, rfl⟩
              rw [hnl.out] at H hil ⊢
              go_wp2_with (refine wpList_store_slcN (j := i * 3 + 2) rfl _ _ rfl rfl (H.front 4 rfl) (.int .i64 (ln + 1)) rfl (by kernel_rfl) (by omega) rfl ?_; clear H; intro w7 H)
              go_meet
              refine ⟨.slice (some ⟨gl, 0, none⟩) nl cgl, L'.set i ⟨dst, cl, ln + 1⟩, E, by rw [List.length_set]; exact hlen'', ?_⟩
              rw [HROW.out] at H
              rw [List.length_set, hnl.out]
              exact (((((H.front 4 rfl).front 4 rfl).front 4 rfl).front 4 rfl))
    case rest =>
      clear H c0
      obtain ⟨u', L', hlook, hlen, H6⟩ := hcut
      have H : Own w0 wc (RNetP g K D F.tail L2 (m + 1) M :: blk fb (.cells #[.bool fd, .int .i64 fy, .int .i64 fc] 30) :: blk rc (.cells #[.bool false, .int .i64 0, .int .i64 0] 30) :: ps) := rnet_shut hlook.out hlen (((((H6.front 5 rfl).front 5 rfl).front 5 rfl).front 5 rfl))
      clear H6 hlook
      have c1 := (H.front 1 rfl).cells
      obtain ⟨n, rfl⟩ : ∃ n : Nat, fc = n := ⟨fc.toNat, by omega⟩
      cases fd with
      | true =>
        go_wp2_with fail
        go_loopw [14] (fun i wx => i = .int .i64 0 ∧ Own w0 wx (RNetP g K D F.tail L2 (m + 1) M :: blk fb (.cells #[.bool true, .int .i64 fy, .int .i64 n] 30) :: blk rc (.cells #[.bool false, .int .i64 0, .int .i64 0] 30) :: ps)) (fun _ _ => 0)
        case atStart => exact ⟨rfl, H⟩
        case round =>
          clear H c1
          obtain ⟨rfl, H⟩ := hrel
          have c1 := (H.front 1 rfl).cells
          have hn0 : (0 : Int) ≤ n := by omega
          go_wp2_with (refine wpList_store_blk rfl _ _ rfl rfl (H.front 2 rfl) [.bool true, .int .i64 fy, .int .i64 n] rfl (by kernel_rfl) (by simp) (by simp [Value.oneCell']) _ rfl ?_; clear H c1; intro w6 H)
          refine bodyPost_ret (results_cell_row rfl _ _ rc _ _ _ _ rfl H.block.1 Try.underlying30 rfl (by kernel_rfl)) rfl ?_
          exact ⟨_, rfl, rfl, by simpa [itemsOf] using (((H.front 2 rfl).front 1 rfl).drop.drop)⟩
      | false =>
        have e1 : itemsOf now dst s k ⟨false, fy, n⟩ = (List.range (n + 1)).map (itA now dst s k fy) := by
          rw [itemsOf_eq]; simp
        have E1 := Lib.hid e1
        clear e1
        go_wp2_with fail
        go_loopw [14] (fun i wx => ∃ (j : Nat), j ≤ n + 1 ∧ i = .int .i64 j ∧ Own w0 wx (RNetP g K D F.tail L2 (m + 1) (M ++ (List.range j).map (itA now dst s k fy)) :: blk fb (.cells #[.bool false, .int .i64 fy, .int .i64 n] 30) :: blk rc (.cells #[.bool false, .int .i64 0, .int .i64 0] 30) :: ps)) (fun i _ => n + 1 - (intOf i).toNat)
        case atStart => exact ⟨0, by omega, rfl, by simpa using H⟩
        case round =>
          clear H c1
          obtain ⟨j, hj, rfl, H⟩ := hrel
          have c1 := (H.front 1 rfl).cells
          by_cases hlt : j < n + 1
          · have hlt2 : (j : Int) ≤ (n : Int) := by omega
            go_wp2_with fail
            refine (rput_any H (by simp; omega) ((now : Int) + 1 + fy + (j : Int)) dst s ((k : Int) + (j : Int))).mono ?_
            rintro e w3 ⟨_, rfl, H3⟩
            clear H c1
            go_wp2
            go_roundw
            case rel => exact ⟨j + 1, by omega, by go_num, by
              have e2 : M ++ (List.range (j + 1)).map (itA now dst s k fy) = M ++ (List.range j).map (itA now dst s k fy) ++ [⟨(now : Int) + 1 + fy + (j : Int), (k : Int) + (j : Int), (dst, s)⟩] := by
                rw [List.range_succ, List.map_append, List.append_assoc]
                simp [itA]
              rw [e2]
              exact H3⟩
            case measure => simp [intOf]; omega
          · obtain rfl : j = n + 1 := by omega
            go_wp2_with (refine wpList_store_blk rfl _ _ rfl rfl (H.front 2 rfl) [.bool false, .int .i64 fy, .int .i64 n] rfl (by kernel_rfl) (by simp) (by simp [Value.oneCell']) _ rfl ?_; clear H c1; intro w6 H)
            refine bodyPost_ret (results_cell_row rfl _ _ rc _ _ _ _ rfl H.block.1 Try.underlying30 rfl (by kernel_rfl)) rfl ?_
            refine ⟨_, rfl, rfl, ?_⟩
            rw [E1.out]
            exact (((H.front 2 rfl).front 1 rfl).drop.drop)
end
end Go.Proofs.Ytnpflnplpipipaa
