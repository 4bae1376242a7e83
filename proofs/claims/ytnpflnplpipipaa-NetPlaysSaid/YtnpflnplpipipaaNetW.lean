/-
  net: the walk of NetPlays.
-/
import Derived.Test.YtnpflnplpipipaaNetU
import Derived.Test.YtnpflnplpipipaaNetV
import Derived.Test.YtnpflnplpipipaaNetF
import Derived.Test.YtnpflnplpipipaaNetG
namespace Go.Proofs.Ytnpflnplpipipaa
open Go.RowKit Go.Maps

section
variable {P : Program} {ops : Array Oper} {S : Sig → World → Prop} {nw tw : List Nat} {R : Act → Prop} {a : Act} {o : Oper} {rest : List Oper} {i : Nat}
/-- A call whose value is known, of which S is told. -/
theorem tcalm_call {v : Value} {f : FuncId} {args : Array Value} (hi : i ∉ nw) (hit : i ∈ tw) (hw : Region.wanted o (yielded ops a.tmps) = true) (hr : ∀ w, (execOp a.eval o).run P w = .ok (.enter f args) w)
    (hc : ∀ σ w, S σ w → σ i = none → Calls P f args w fun e w' => e = .returned v ∧ S (σ.upd i v) w') (h : Trk.calm P ops S nw tw R (i + 1) rest (a.put o.dst v)) : Trk.calm P ops S nw tw R i (o :: rest) a :=
  Trk.calm_step v hi hw (fun σ w hS hf K Q hK => by
    unfold Oper.wp
    rw [hr w]
    refine (hc σ w hS (hf hit)).mono ?_
    rintro e w' ⟨rfl, hS'⟩
    exact hK w' (by rw [Trk.trk, if_pos hit]; exact hS')) h
/-- A call whose value is known and that keeps S. -/
theorem ucalm_call {v : Value} {f : FuncId} {args : Array Value} (hi : i ∉ nw) (hit : i ∉ tw) (hw : Region.wanted o (yielded ops a.tmps) = true) (hr : ∀ w, (execOp a.eval o).run P w = .ok (.enter f args) w)
    (hc : ∀ σ w, S σ w → Calls P f args w fun e w' => e = .returned v ∧ S σ w') (h : Trk.calm P ops S nw tw R (i + 1) rest (a.put o.dst v)) : Trk.calm P ops S nw tw R i (o :: rest) a :=
  Trk.calm_step v hi hw (fun σ w hS _ K Q hK => by
    unfold Oper.wp
    rw [hr w]
    refine (hc σ w hS).mono ?_
    rintro e w' ⟨rfl, hS'⟩
    exact hK w' (by rw [Trk.trk, if_neg hit]; exact hS')) h
theorem ncalm_call {f : FuncId} {args : Array Value} (hi : i ∈ nw) (hr : ∀ w, (execOp a.eval o).run P w = .ok (.enter f args) w)
    (hc : ∀ σ w, S σ w → Calls P f args w fun e w' => ∃ v, e = .returned v ∧ S (σ.upd i v) w') (h : calm P ops S nw R (i + 1) rest a) : calm P ops S nw R i (o :: rest) a :=
  calm_new hi (fun σ w hS K Q hK => by
    unfold Oper.wp
    rw [hr w]
    refine (hc σ w hS).mono ?_
    rintro e w' ⟨v, rfl, hS'⟩
    exact hK v w' hS') h
/-- What a call made anew. -/
def newC (mk : Nat → Piece) : Option Value → List Piece
  | none => []
  | some v => [ex fun g => star (fact (v = .pointer (some ⟨g, 0, none⟩))) (mk g)]
theorem Own.newc_mk {w0 w : World} {mk : Nat → Piece} {g : Nat} {ps : List Piece} (h : Own w0 w (mk g :: ps)) : Own w0 w (newC mk (some (.pointer (some ⟨g, 0, none⟩))) ++ ps) :=
  Own.unex (f := fun g' => Go.Proofs.Ytnpflnplpipipaa.star (Go.Proofs.Ytnpflnplpipipaa.fact (Value.pointer (some ⟨g, 0, none⟩) = .pointer (some ⟨g', 0, none⟩))) (mk g')) g ((h.unfact rfl).unstar)
theorem Own.newc {w0 w : World} {mk : Nat → Piece} {v : Value} {ps : List Piece} (h : Own w0 w (newC mk (some v) ++ ps)) : ∃ g, v = .pointer (some ⟨g, 0, none⟩) ∧ Own w0 w (mk g :: ps) := by
  have h : Own w0 w (Go.Proofs.Ytnpflnplpipipaa.ex (fun g => Go.Proofs.Ytnpflnplpipipaa.star (Go.Proofs.Ytnpflnplpipipaa.fact (v = .pointer (some ⟨g, 0, none⟩))) (mk g)) :: ps) := h
  obtain ⟨g, h⟩ := h.ex
  obtain ⟨hv, h⟩ := h.star.fact
  exact ⟨g, hv, h⟩
end

/-- A deed. -/
structure De where
  kind : Int
  dst : Int
  cl : Int
  n : Int
  f : Fa
def dcell (d : De) : List Value := [.int .i64 d.kind, .int .i64 d.dst, .int .i64 d.cl, .int .i64 d.n, .bool d.f.drop, .int .i64 d.f.delay, .int .i64 d.f.copies]
theorem dcell_length (d : De) : (dcell d).length = 7 := rfl

set_option maxRecDepth 100000 in
set_option maxHeartbeats 6400000 in
theorem plays_any (K D : Int) (hK : In64 K) (ds : List De) (hds : ∀ d ∈ ds, In64 d.dst ∧ In64 d.cl) {v : Value} (w : World) (hr : Rd w 7 v ds.length (rows dcell ds)) :
    Calls Try.prog 5 #[.agg #[.int .i64 K, .int .i64 D], v] w (Ret fun v w' => v = .bool true ∧ Own w w' []) := by
  obtain ⟨n0, hlen⟩ : ∃ n, Hid (ds.length = n) := ⟨_, rfl⟩
  rw [hlen.out] at hr
  obtain ⟨a0, cap0, rfl, hn1, hn2⟩ := hr.shape
  have HR := Lib.hid hr
  clear hr
  obtain ⟨K0, hK0⟩ : ∃ k, Hid ((if K < 0 then 0 else K) = k) := ⟨_, rfl⟩
  obtain ⟨D0, hD0⟩ : ∃ k, Hid (clipI D 0 64 = k) := ⟨_, rfl⟩
  have hDb := clipI_bounds (n := D) (lo := 0) (hi := 64) (by omega)
  rw [hD0.out] at hDb
  obtain ⟨hD1, hD2⟩ := hDb
  have hKb : 0 ≤ K0 ∧ K0 ≤ 9223372036854775807 := by
    rw [← hK0.out]
    have h2 := hK.2
    split <;> omega
  obtain ⟨hK1, hK2⟩ := hKb
  go_enter Try.func5, Try.ntmps5
  go_upto_region 1 with (fail)
  have H := (Own.start w).alloc (.cells #[.int .i64 K, .int .i64 D] 23)
  generalize w.heap.size = fp at *
  generalize w.alloc (.cells #[.int .i64 K, .int .i64 D] 23) = wa at *
  have hnew : ∀ (ps : List Piece) (wz : World), Own w wz ps → Calls Try.prog 7 #[.agg #[.int .i64 K, .int .i64 D]] wz (Ret fun v w' => ∃ g, v = .pointer (some ⟨g, 0, none⟩) ∧ Own w w' (NetP g K0 D0 [] (fun _ => 0) 0 [] 0 :: ps)) := fun ps wz h => by
    have := netnew_any h K D
    rwa [hK0.out, hD0.out] at this
  have hrnew : ∀ (ps : List Piece) (wz : World), Own w wz ps → Calls Try.prog 13 #[.agg #[.int .i64 K, .int .i64 D]] wz (Ret fun v w' => ∃ g, v = .pointer (some ⟨g, 0, none⟩) ∧ Own w w' (RNetP g K0 D0 [] (fun _ => 0) 0 [] :: ps)) := fun ps wz h => by
    have := rnew_any h K D
    rwa [hK0.out, hD0.out] at this
  have HN := Lib.hid hnew
  have HRN := Lib.hid hrnew
  clear hnew hrnew hK0 hD0 hK
  refine wp_region_new (fun σ w1 => Own w w1 (newC (fun g => NetP g K0 D0 [] (fun _ => 0) 0 [] 0) (σ 1) ++ (newC (fun g => RNetP g K0 D0 [] (fun _ => 0) 0 []) (σ 3) ++ [blk fp (.cells #[.int .i64 K, .int .i64 D] 23)]))) 4 [1, 3] (by kernel_rfl) (by kernel_rfl) H.drew ?_
  simp only [List.take_succ_cons, List.take_zero, List.drop_succ_cons, List.drop_zero]
  repeat
    first
    | (refine calm_value (v := ?_) (by decide) rfl (fun σ w1 hS => ?_) ?_
       rotate_left
       · have c0 := hS.skip.skip.cells
         first | (go_simp; rfl) | rfl
       simp only [Act.put, List.setIfInBounds_toArray, List.set_cons_zero, List.set_cons_succ])
    | (refine calm_skip (by decide) rfl ?_
       simp only [Act.put, List.setIfInBounds_toArray, List.set_cons_zero, List.set_cons_succ])
  refine ncalm_call (by decide) (fun w1 => (by go_simp; first | exact ⟨rfl, rfl⟩ | rfl)) (fun σ w1 hS => ?_) ?_
  · refine (HN.out _ _ hS.skip).mono ?_
    rintro e w2 ⟨_, rfl, g, rfl, h2⟩
    refine ⟨_, rfl, ?_⟩
    have h3 := h2.newc_mk (mk := fun g => NetP g K0 D0 [] (fun _ => 0) 0 [] 0)
    simpa [Sig.upd] using h3
  repeat
    first
    | (refine calm_value (v := ?_) (by decide) rfl (fun σ w1 hS => ?_) ?_
       rotate_left
       · have c0 := hS.skip.skip.cells
         first | (go_simp; rfl) | rfl
       simp only [Act.put, List.setIfInBounds_toArray, List.set_cons_zero, List.set_cons_succ])
    | (refine calm_skip (by decide) rfl ?_
       simp only [Act.put, List.setIfInBounds_toArray, List.set_cons_zero, List.set_cons_succ])
  refine ncalm_call (by decide) (fun w1 => (by go_simp; first | exact ⟨rfl, rfl⟩ | rfl)) (fun σ w1 hS => ?_) ?_
  · have hS2 := hS.perm (List.perm_append_comm_assoc _ _ _)
    refine (HRN.out _ _ hS2.skip).mono ?_
    rintro e w2 ⟨_, rfl, g, rfl, h2⟩
    refine ⟨_, rfl, ?_⟩
    have h3 := (h2.newc_mk (mk := fun g => RNetP g K0 D0 [] (fun _ => 0) 0 [])).perm (List.perm_append_comm_assoc _ _ _)
    simpa [Sig.upd] using h3
  refine calm_nil ?_
  intro σ wd hσ HD
  obtain ⟨va, hva⟩ := Option.isSome_iff_exists.1 (hσ 1 (by decide))
  obtain ⟨vr, hvr⟩ := Option.isSome_iff_exists.1 (hσ 3 (by decide))
  rw [hva, hvr] at HD
  obtain ⟨ga, hga, HE⟩ := Own.newc (v := va) (mk := fun g => NetP g K0 D0 [] (fun _ => 0) 0 [] 0) (ps := newC (fun g => RNetP g K0 D0 [] (fun _ => 0) 0 []) (some vr) ++ [blk fp (.cells #[.int .i64 K, .int .i64 D] 23)]) HD
  obtain ⟨gr, hgr, HG⟩ := Own.newc (v := vr) (mk := fun g => RNetP g K0 D0 [] (fun _ => 0) 0 []) (ps := [NetP ga K0 D0 [] (fun _ => 0) 0 [] 0, blk fp (.cells #[.int .i64 K, .int .i64 D] 23)]) HE.swap
  clear HD HE H HN HRN
  subst hga hgr
  simp only [putNew, List.foldl_cons, List.foldl_nil, hva, hvr]
  simp only [Act.put, List.setIfInBounds_toArray, List.set_cons_zero, List.set_cons_succ, List.getElem?_cons_succ, List.getElem?_cons_zero, Option.bind_some, Option.getD_some]
  have H := HG.swap
  clear HG hσ hva hvr
  go_wp2_with fail
  go_loopw [7, 8] (fun s7 s8 wx => ∃ (j t : Nat) (F : List Fa) (late : Int × Int → Int) (c k : Nat) (M : List (It (Int × ByteArray))), j ≤ n0 ∧ j ≤ 120 ∧ s8 = .int .i64 j ∧ t ≤ j ∧ s7 = .int .i64 t ∧ F.length ≤ j ∧ c ≤ j ∧ k ≤ 4 * j ∧ M.length ≤ 4 * j ∧ Hid (∀ x, 0 ≤ late x ∧ late x ≤ (j : Int)) ∧ Hid (OrdX M k) ∧ Own w wx [NetP ga K0 D0 F late c M k, RNetP gr K0 D0 F late c M, blk fp (.cells #[.int .i64 K, .int .i64 D] 23)]) (fun _ s8 _ => 120 - (intOf s8).toNat)
  case atStart => exact ⟨0, 0, [], fun _ => 0, 0, 0, [], by omega, by omega, rfl, by omega, rfl, by simp, by omega, by omega, by simp, Lib.hid (fun x => by simp), Lib.hid ⟨List.Pairwise.nil, by simp⟩, H⟩
  case round =>
    clear H
    obtain ⟨j, t, F, late, c, k, M, hj, hj2, rfl, htj, rfl, hF, hc, hk, hM, hb, hOrd, H⟩ := hrel
    by_cases hlt : j < n0 ∧ j < 120
    · obtain ⟨hlt, hl4⟩ := hlt
      obtain ⟨d, hd⟩ := get_of_lt (l := ds) (k := j) (by rw [hlen.out]; exact hlt)
      obtain ⟨b, o, _, e, _⟩ := HR.out.some (by rw [rows_length dcell dcell_length, hlen.out]; omega)
      cases e
      have hcell := fun q (hq : q < 7) => (HR.out.old H).cell (u := (dcell d)[q]'(by rw [dcell_length]; exact hq)) ((rows_get dcell dcell_length hd q hq).trans (List.getElem?_eq_getElem _))
      have q0 := hcell 0 (by omega)
      have q1 := hcell 1 (by omega)
      have q2 := hcell 2 (by omega)
      have q3 := hcell 3 (by omega)
      have q4 := hcell 4 (by omega)
      have q5 := hcell 5 (by omega)
      have q6 := hcell 6 (by omega)
      obtain ⟨hd1, hd2⟩ := hds d (List.mem_of_getElem? hd)
      clear hcell hd
      obtain ⟨kd, dst, cl, dn, ⟨fd, fy, fc⟩⟩ := d
      simp only [dcell, List.getElem_cons_zero, List.getElem_cons_succ, Nat.add_zero, ← Nat.add_assoc] at q0 q1 q2 q3 q4 q5 q6
      simp only at hd1 hd2
      go_upto_region 7 with (fail)
      obtain ⟨xb, hxb⟩ : ∃ xb, wr.heap.size = xb := ⟨_, rfl⟩
      replace H := H.alloc (.cells #[.int .i64 kd, .int .i64 dst, .int .i64 cl, .int .i64 dn, .bool fd, .int .i64 fy, .int .i64 fc] 42)
      rw [hxb] at H ⊢
      generalize wr.alloc (.cells #[.int .i64 kd, .int .i64 dst, .int .i64 cl, .int .i64 dn, .bool fd, .int .i64 fy, .int .i64 fc] 42) = wb at *
      clear hxb q0 q1 q2 q3 q4 q5 q6
      have c0 := H.cells
      go_upto_block 2 with (fail)
      go_cut [7] (fun s7 wx => ∃ (t' : Nat) (F : List Fa) (late : Int × Int → Int) (c k : Nat) (M : List (It (Int × ByteArray))), t' ≤ j + 1 ∧ s7 = .int .i64 t' ∧ F.length ≤ j + 1 ∧ c ≤ j + 1 ∧ k ≤ 4 * (j + 1) ∧ M.length ≤ 4 * (j + 1) ∧ Hid (∀ x, 0 ≤ late x ∧ late x ≤ ((j + 1 : Nat) : Int)) ∧ Hid (OrdX M k) ∧ Own w wx [NetP ga K0 D0 F late c M k, RNetP gr K0 D0 F late c M, blk xb (.cells #[.int .i64 kd, .int .i64 dst, .int .i64 cl, .int .i64 dn, .bool fd, .int .i64 fy, .int .i64 fc] 42), blk fp (.cells #[.int .i64 K, .int .i64 D] 23)])
      case first =>
        have hb1 : Hid (∀ x, 0 ≤ late x ∧ late x ≤ ((j + 1 : Nat) : Int)) := Lib.hid fun x => by have := hb.out x; omega
        by_cases hk012 : kd = 0 ∨ kd = 1 ∨ kd = 2
        · have hA := fun (qs : List Piece) (wz : World) (h : Own w wz (NetP ga K0 D0 F late c M k :: qs)) => netsend_any h (now := t) (by omega) dst cl hd1 hd2 (letterB j) hD1 hD2 hK1 hK2 (by omega) (hb.out (dst, cl)).1 (by have := (hb.out (dst, cl)).2; omega) (by omega) (by omega) (by omega)
          have hB := fun (qs : List Piece) (wz : World) (h : Own w wz (RNetP gr K0 D0 F late c M :: qs)) => rsend_any h (now := t) (by omega) dst cl (letterB j) k hD1 hD2 hK1 hK2 (hb.out (dst, cl)).1 (by have := (hb.out (dst, cl)).2; omega) (by omega) (by omega) (by omega)
          have hok := boundF_ok (K := K0) (n := late (dst, cl)) (fateOf_ok F) hD1 hD2
          obtain ⟨f1, hf1⟩ : ∃ f, Hid (boundF K0 D0 (late (dst, cl)) (fateOf F) = f) := ⟨_, rfl⟩
          simp only [hf1.out] at hA hB hok
          have hil := itemsOf_length t dst (letterB j) k f1 hok
          have hord1 := hOrd.out.items t dst (letterB j) f1
          have hb2 := lateF_bounds (K := K0) (D := D0) (c := (dst, cl)) (f := f1) hb.out
          obtain ⟨la1, hla1⟩ : ∃ la, Hid (lateF K0 D0 (dst, cl) f1 late = la) := ⟨_, rfl⟩
          obtain ⟨it1, hit1⟩ : ∃ it, Hid (itemsOf (t : Int) dst (letterB j) k f1 = it) := ⟨_, rfl⟩
          simp only [hla1.out, hit1.out] at hA hB hb2 hil hord1
          have hM1 : (M ++ it1).length ≤ 4 * (j + 1) := by rw [List.length_append]; omega
          have hk1' : k + it1.length ≤ 4 * (j + 1) := by omega
          generalize k + it1.length = k1 at *
          generalize M ++ it1 = M1 at *
          have hF1 : F.tail.length ≤ j + 1 := by simp; omega
          have hb3 : Hid (∀ x, 0 ≤ la1 x ∧ la1 x ≤ ((j + 1 : Nat) : Int)) := Lib.hid fun x => by have := hb2 x; omega
          have HO1 := Lib.hid hord1
          have HA := Lib.hid hA
          have HB := Lib.hid hB
          clear hA hB hok hf1 hil hord1 hb2 hla1 hit1 hb1 hb
          obtain ⟨gd, gy, gc⟩ := f1
          simp only [fval] at HA HB
          have hkk : ((kd == 0) = true) ∨ ((kd == 0) = false ∧ (kd == 1) = true) ∨ ((kd == 0) = false ∧ (kd == 1) = false ∧ (kd == 2) = true) := by
            rcases hk012 with rfl | rfl | rfl <;> simp
          clear hk012
          rcases hkk with hk0 | ⟨hk0, hk1⟩ | ⟨hk0, hk1, hk2⟩
          all_goals
            go_upto_region 13 with (fail)
            clear c0
            refine Trk.wp_region_new (fun σ w1 => Own w w1 ((if (σ 8).isSome then NetP ga K0 D0 F.tail la1 (c + 1) M1 k1 else NetP ga K0 D0 F late c M k) :: RNetP gr K0 D0 F late c M :: blk xb (.cells #[.int .i64 kd, .int .i64 dst, .int .i64 cl, .int .i64 dn, .bool fd, .int .i64 fy, .int .i64 fc] 42) :: [blk fp (.cells #[.int .i64 K, .int .i64 D] 23)])) 17 [] [8] (by intro k hk; simp at hk; subst hk; exact ⟨by omega, by simp, fun o ho => by simp at ho; subst ho; rfl⟩) (by kernel_rfl) (by kernel_rfl) (((H.drew.front 2 rfl).front 2 rfl)) ?_
            simp only [List.take_succ_cons, List.take_zero, List.drop_succ_cons, List.drop_zero]
            repeat
              first
              | (refine Trk.calm_value (v := ?_) (by decide) (by decide) rfl (fun σ w1 hS => ?_) ?_
                 rotate_left
                 · have c0 := (hS.front 2 rfl).cells
                   first | (go_simp; rfl) | rfl
                 simp only [Act.put, List.setIfInBounds_toArray, List.set_cons_zero, List.set_cons_succ])
              | (refine Trk.calm_skip (by decide) rfl ?_
                 simp only [Act.put, List.setIfInBounds_toArray, List.set_cons_zero, List.set_cons_succ])
            refine ucalm_call (v := .string (letterB j)) (by decide) (by decide) rfl (fun w1 => (by go_simp; first | exact ⟨rfl, rfl⟩ | rfl)) (fun σ w1 hS => ?_) ?_
            · refine (letter_any j (by omega) w1).mono ?_
              rintro e w2 ⟨_, rfl, rfl, h2⟩
              exact ⟨rfl, hS.join h2⟩
            simp only [Act.put, List.setIfInBounds_toArray, List.set_cons_zero, List.set_cons_succ]
            refine tcalm_call (v := .agg #[.bool gd, .int .i64 gy, .int .i64 gc]) (by decide) (by decide) rfl (fun w1 => (by go_simp; first | exact ⟨rfl, rfl⟩ | rfl)) (fun σ w1 hS hn => ?_) ?_
            · rw [hn] at hS
              refine (HA.out _ _ hS).mono ?_
              rintro e w2 ⟨_, rfl, rfl, h2⟩
              refine ⟨rfl, ?_⟩
              simpa [Sig.upd] using h2
            simp only [Act.put, List.setIfInBounds_toArray, List.set_cons_zero, List.set_cons_succ]
            repeat
              first
              | (refine Trk.calm_value (v := ?_) (by decide) (by decide) rfl (fun σ w1 hS => ?_) ?_
                 rotate_left
                 · have c0 := (hS.front 2 rfl).cells
                   first | (go_simp; rfl) | rfl
                 simp only [Act.put, List.setIfInBounds_toArray, List.set_cons_zero, List.set_cons_succ])
              | (refine Trk.calm_skip (by decide) rfl ?_
                 simp only [Act.put, List.setIfInBounds_toArray, List.set_cons_zero, List.set_cons_succ])
            refine ucalm_call (v := .string (letterB j)) (by decide) (by decide) rfl (fun w1 => (by go_simp; first | exact ⟨rfl, rfl⟩ | rfl)) (fun σ w1 hS => ?_) ?_
            · refine (letter_any j (by omega) w1).mono ?_
              rintro e w2 ⟨_, rfl, rfl, h2⟩
              exact ⟨rfl, hS.join h2⟩
            simp only [Act.put, List.setIfInBounds_toArray, List.set_cons_zero, List.set_cons_succ]
            refine Trk.calm_nil ?_
            intro σ wd _ hσ HD
            have h8 := hσ 8 (by decide)
            rw [if_pos h8] at HD
            clear H hσ h8
            simp only [putNew, List.foldl_nil]
            go_wp2_with fail
            refine (HB.out _ _ (HD.front 1 rfl)).mono ?_
            rintro e w3 ⟨_, rfl, rfl, H3⟩
            clear HD HA HB
            go_wp2
            go_meet
            exact ⟨t, F.tail, la1, c + 1, k1, M1, by omega, rfl, hF1, by omega, hk1', hM1, hb3, HO1, ((H3.front 1 rfl))⟩
        · have hk0 : (kd == 0) = false := by simpa using fun h => hk012 (.inl h)
          have hk1 : (kd == 1) = false := by simpa using fun h => hk012 (.inr (.inl h))
          have hk2 : (kd == 2) = false := by simpa using fun h => hk012 (.inr (.inr h))
          clear hk012
          have hrest : (kd == 3) = true ∨ ((kd == 3) = false ∧ ((kd == 4) = true ∨ (kd == 4) = false ∧ (kd == 5) = true)) ∨ ((kd == 3) = false ∧ (kd == 4) = false ∧ (kd == 5) = false ∧ (kd == 6) = true) ∨ ((kd == 3) = false ∧ (kd == 4) = false ∧ (kd == 5) = false ∧ (kd == 6) = false) := by
            cases (kd == 3) <;> cases (kd == 4) <;> cases (kd == 5) <;> cases (kd == 6) <;> simp
          rcases hrest with hk3 | ⟨hk3, h45⟩ | ⟨hk3, hk4, hk5, hk6⟩ | ⟨hk3, hk4, hk5, hk6⟩
          · have hA := fun (qs : List Piece) (wz : World) (h : Own w wz (NetP ga K0 D0 F late c M k :: qs)) => netinject_any h (by omega) (by omega) (now := t) (by omega) dst dn (letterB j)
            have hB := fun (qs : List Piece) (wz : World) (h : Own w wz (RNetP gr K0 D0 F late c M :: qs)) => rinject_any h (by omega) (now := t) (by omega) dst dn (letterB j) (k : Int)
            have hord1 : Hid (OrdX (M ++ [⟨(t : Int) + 1 + clipI dn 0 64, k, (dst, letterB j)⟩]) (k + 1)) := Lib.hid (hOrd.out.put rfl)
            have hM1 : (M ++ [(⟨(t : Int) + 1 + clipI dn 0 64, k, (dst, letterB j)⟩ : It (Int × ByteArray))]).length ≤ 4 * (j + 1) := by rw [List.length_append]; simp; omega
            generalize M ++ [(⟨(t : Int) + 1 + clipI dn 0 64, k, (dst, letterB j)⟩ : It (Int × ByteArray))] = M1 at *
            have HA := Lib.hid hA
            have HB := Lib.hid hB
            clear hA hB
            go_upto_region 16 with (fail)
            clear c0
            refine wp_region_calm (fun w1 => Own w w1 [blk xb (.cells #[.int .i64 kd, .int .i64 dst, .int .i64 cl, .int .i64 dn, .bool fd, .int .i64 fy, .int .i64 fc] 42), NetP ga K0 D0 F late c M k, RNetP gr K0 D0 F late c M, blk fp (.cells #[.int .i64 K, .int .i64 D] 23)]) 8 (by kernel_rfl) (by kernel_rfl) H.drew ?_
            simp only [List.take_succ_cons, List.take_zero, List.drop_succ_cons, List.drop_zero]
            repeat
              first
              | (refine calm_value (v := ?_) (by decide) rfl (fun σ w1 hS => ?_) ?_
                 rotate_left
                 · have c0 := hS.cells
                   first | (go_simp; rfl) | rfl
                 simp only [Act.put, List.setIfInBounds_toArray, List.set_cons_zero, List.set_cons_succ])
              | (refine calm_skip (by decide) rfl ?_
                 simp only [Act.put, List.setIfInBounds_toArray, List.set_cons_zero, List.set_cons_succ])
            refine calm_call (v := .string (letterB j)) (by decide) rfl (fun w1 => (by go_simp; first | exact ⟨rfl, rfl⟩ | rfl)) (fun σ w1 hS => ?_) ?_
            · refine (letter_any j (by omega) w1).mono ?_
              rintro e w2 ⟨_, rfl, rfl, h2⟩
              exact ⟨rfl, hS.join h2⟩
            simp only [Act.put, List.setIfInBounds_toArray, List.set_cons_zero, List.set_cons_succ]
            refine calm_nil ?_
            intro wd HD
            clear H
            go_wp2_with fail
            refine (HA.out _ _ (HD.front 1 rfl)).mono ?_
            rintro e w3 ⟨_, rfl, H3⟩
            clear HD HA
            have H : Own w w3 [blk xb (.cells #[.int .i64 kd, .int .i64 dst, .int .i64 cl, .int .i64 dn, .bool fd, .int .i64 fy, .int .i64 fc] 42), NetP ga K0 D0 F late c M1 (k + 1), RNetP gr K0 D0 F late c M, blk fp (.cells #[.int .i64 K, .int .i64 D] 23)] := H3.swap
            clear H3
            go_upto_region 17 with (fail)
            refine wp_region_calm (fun w1 => Own w w1 [blk xb (.cells #[.int .i64 kd, .int .i64 dst, .int .i64 cl, .int .i64 dn, .bool fd, .int .i64 fy, .int .i64 fc] 42), NetP ga K0 D0 F late c M1 (k + 1), RNetP gr K0 D0 F late c M, blk fp (.cells #[.int .i64 K, .int .i64 D] 23)]) 8 (by kernel_rfl) (by kernel_rfl) H.drew ?_
            simp only [List.take_succ_cons, List.take_zero, List.drop_succ_cons, List.drop_zero]
            repeat
              first
              | (refine calm_value (v := ?_) (by decide) rfl (fun σ w1 hS => ?_) ?_
                 rotate_left
                 · have c0 := hS.cells
                   first | (go_simp; rfl) | rfl
                 simp only [Act.put, List.setIfInBounds_toArray, List.set_cons_zero, List.set_cons_succ])
              | (refine calm_skip (by decide) rfl ?_
                 simp only [Act.put, List.setIfInBounds_toArray, List.set_cons_zero, List.set_cons_succ])
            refine calm_call (v := .string (letterB j)) (by decide) rfl (fun w1 => (by go_simp; first | exact ⟨rfl, rfl⟩ | rfl)) (fun σ w1 hS => ?_) ?_
            · refine (letter_any j (by omega) w1).mono ?_
              rintro e w2 ⟨_, rfl, rfl, h2⟩
              exact ⟨rfl, hS.join h2⟩
            simp only [Act.put, List.setIfInBounds_toArray, List.set_cons_zero, List.set_cons_succ]
            refine calm_nil ?_
            intro wd HD
            clear H
            go_wp2_with fail
            refine (HB.out _ _ (HD.front 2 rfl)).mono ?_
            rintro e w5 ⟨_, rfl, H5⟩
            clear HD HB
            go_wp2
            go_meet
            exact ⟨t, F, late, c, k + 1, M1, by omega, rfl, by omega, by omega, by omega, hM1, hb1, hord1, ((H5.front 2 rfl))⟩
          · rcases h45 with hk4 | ⟨hk4, hk5⟩
            all_goals
              by_cases hdue : ∃ m ∈ M, m.at_ ≤ (t : Int)
              · obtain ⟨x, m, hj1, hm⟩ := exists_least M (by rintro rfl; obtain ⟨m, hm, _⟩ := hdue; simp at hm)
                have hnow : m.at_ ≤ (t : Int) := by
                  obtain ⟨y, hy, hyt⟩ := hdue
                  have := hm y hy
                  simp only [It.lt] at this
                  omega
                have hnx := netnext_yes t (H.front 1 rfl) hj1 hm hOrd.out.keys hnow (by omega)
                have HNX := Lib.hid hnx
                have HJ := Lib.hid hj1
                have HM := Lib.hid hm
                have HNOW := Lib.hid hnow
                clear hnx hj1 hm hnow hdue
                go_wp2_with fail
                refine HNX.out.mono ?_
                rintro e w3 ⟨_, rfl, rfl, H3⟩
                clear HNX H c0
                go_wp2_with fail
                refine (rnext_any t (H3.front 2 rfl) (by omega)).mono ?_
                rintro e w4 ⟨v4, rfl, h4⟩
                rcases h4 with ⟨hno, _, _⟩ | ⟨x', m', hx', hf', _, rfl, H4⟩
                · have h5 := hno m (List.mem_of_getElem? HJ.out)
                  have h6 := HNOW.out
                  omega
                · have hl' := hOrd.out.least hx' hf'
                  have hpm : (m' :: M.eraseIdx x').Perm M := (front_perm M x' m' hx').symm
                  obtain ⟨rfl, _⟩ := least_perm hpm HJ.out HM.out hl' hOrd.out.keys
                  have hxx : x' = x := by
                    have hp := hOrd.out.keys
                    rcases Nat.lt_trichotomy x' x with h | h | h
                    · have := List.pairwise_iff_getElem.1 hp x' x (List.getElem?_eq_some_iff.1 hx').1 (List.getElem?_eq_some_iff.1 HJ.out).1 h
                      rw [(List.getElem?_eq_some_iff.1 hx').2, (List.getElem?_eq_some_iff.1 HJ.out).2] at this
                      exact absurd rfl this
                    · exact h
                    · have := List.pairwise_iff_getElem.1 hp x x' (List.getElem?_eq_some_iff.1 HJ.out).1 (List.getElem?_eq_some_iff.1 hx').1 h
                      rw [(List.getElem?_eq_some_iff.1 hx').2, (List.getElem?_eq_some_iff.1 HJ.out).2] at this
                      exact absurd rfl this
                  subst hxx
                  have hle : (M.eraseIdx x').length ≤ 4 * (j + 1) := by rw [List.length_eraseIdx]; split <;> omega
                  have hO2 : Hid (OrdX (M.eraseIdx x') k) := Lib.hid (hOrd.out.take x')
                  clear H3 hx' hf' hl' hpm HJ HM HNOW
                  go_wp2
                  go_meet
                  exact ⟨t, F, late, c, k, M.eraseIdx x', by omega, rfl, by omega, by omega, by omega, hle, hb1, hO2, ((H4.front 1 rfl))⟩
              · have hno : ∀ m ∈ M, (t : Int) < m.at_ := fun m hm => by
                  rcases Classical.em (m.at_ ≤ (t : Int)) with h | h
                  · exact absurd ⟨m, hm, h⟩ hdue
                  · omega
                have hnx := netnext_no t (H.front 1 rfl) hno (by omega)
                have HNX := Lib.hid hnx
                have HNO := Lib.hid hno
                clear hnx hno hdue
                go_wp2_with fail
                refine HNX.out.mono ?_
                rintro e w3 ⟨_, rfl, rfl, H3⟩
                clear HNX H c0
                go_wp2_with fail
                refine (rnext_any t (H3.front 2 rfl) (by omega)).mono ?_
                rintro e w4 ⟨v4, rfl, h4⟩
                rcases h4 with ⟨_, rfl, H4⟩ | ⟨x', m', hx', _, hd', _, _⟩
                · clear H3 HNO
                  go_wp2
                  go_meet
                  exact ⟨t, F, late, c, k, M, by omega, rfl, by omega, by omega, by omega, by omega, hb1, hOrd, ((H4.front 1 rfl))⟩
                · have h5 := HNO.out m' (List.mem_of_getElem? hx')
                  omega
          · go_wp2
            go_meet
            exact ⟨t + 1, F, late, c, k, M, by omega, by go_num, by omega, by omega, by omega, by omega, hb1, hOrd, (((H.front 2 rfl).front 2 rfl))⟩
          · have hF1 : (F ++ [(⟨fd, fy, fc⟩ : Fa)]).length ≤ j + 1 := by simp; omega
            go_wp2_with fail
            have hr := ((H.alloc (.cells #[.bool fd, .int .i64 fy, .int .i64 fc] 30)).slc_mk (xs := rows fcell [⟨fd, fy, fc⟩]) (n := 1) (size := 3) rfl (Nat.le_refl _) (by decide) rfl rfl).rd
            refine (netfates_any ((H.alloc' _).front 1 rfl) [⟨fd, fy, fc⟩] hr (by simp; omega)).mono ?_
            rintro e w3 ⟨_, rfl, H3⟩
            clear hr H c0
            obtain ⟨v, u, z, L, hL, hLm, H⟩ := rnet_open (H3.front 2 rfl)
            have HL := Lib.hid hL
            clear hL H3
            obtain ⟨nF, hnF⟩ : ∃ n, Hid (F.length = n) := ⟨_, rfl⟩
            rw [hnF.out] at H hF
            obtain ⟨av, cv, rfl, hv1, hv2⟩ := (H.front 1 rfl).drd.shape
            have H : Own w w3 (blk gr (.cells #[.int .i64 K0, .int .i64 D0, .slice av nF cv, u, z] 47) :: sld 30 3 (.slice av nF cv) nF (rows fcell F) :: slc 67 3 u L.length (rows lcell L) :: slc 69 3 z M.length (rows pcell M) :: NetP ga K0 D0 (F ++ [(⟨fd, fy, fc⟩ : Fa)]) late c M k :: blk xb (.cells #[.int .i64 kd, .int .i64 dst, .int .i64 cl, .int .i64 dn, .bool fd, .int .i64 fy, .int .i64 fc] 42) :: [blk fp (.cells #[.int .i64 K, .int .i64 D] 23)]) := H
            go_upto_region 9 with (fail)
            refine wp_region_pres (fun σ w1 => Own w w1 (newR (.cells #[.bool fd, .int .i64 fy, .int .i64 fc] 30) 1 (σ 7) ++ (blk gr (.cells #[.int .i64 K0, .int .i64 D0, .slice av nF cv, u, z] 47) :: sld 30 3 (.slice av nF cv) nF (rows fcell F) :: slc 67 3 u L.length (rows lcell L) :: slc 69 3 z M.length (rows pcell M) :: NetP ga K0 D0 (F ++ [(⟨fd, fy, fc⟩ : Fa)]) late c M k :: blk xb (.cells #[.int .i64 kd, .int .i64 dst, .int .i64 cl, .int .i64 dn, .bool fd, .int .i64 fy, .int .i64 fc] 42) :: [blk fp (.cells #[.int .i64 K, .int .i64 D] 23)]))) 8 [7] [0] (by kernel_rfl) (by kernel_rfl) (by kernel_rfl) (by kernel_rfl) (fun _ _ d _ _ h => by cases d <;> exact h) ⟨_, _, rfl, fun w => (by first | rfl | (go_simp; rfl)), rfl⟩ H.drew ?_
            simp only [List.take_succ_cons, List.take_zero, List.drop_succ_cons, List.drop_zero]
            repeat
              first
              | (refine calm_value (v := ?_) (by decide) rfl (fun σ w1 hS => ?_) ?_
                 rotate_left
                 · have c0 := hS.skip.cells; have c1 := (hS.skip.front 5 rfl).cells
                   first | (go_simp; rfl) | rfl
                 simp only [Act.put, List.setIfInBounds_toArray, List.set_cons_zero, List.set_cons_succ])
              | (refine calm_skip (by decide) rfl ?_
                 simp only [Act.put, List.setIfInBounds_toArray, List.set_cons_zero, List.set_cons_succ])
            refine calm_row (by decide) (fun w1 => (by go_simp)) ?_
            refine calm_nil ?_
            intro σ wd hσ HD
            obtain ⟨vn, hvn⟩ := Option.isSome_iff_exists.1 (hσ 7 (by decide))
            rw [hvn] at HD
            obtain ⟨g2, rfl, HN⟩ := HD.newr
            clear HD H
            simp only [putNew, List.foldl_cons, List.foldl_nil, hvn]
            simp only [Act.put, List.setIfInBounds_toArray, List.set_cons_zero, List.set_cons_succ, List.getElem?_cons_succ, List.getElem?_cons_zero, Option.bind_some, Option.getD_some]
            have hrow := (HN.slc_mk (xs := fcell ⟨fd, fy, fc⟩) (n := 1) (size := 3) rfl (Nat.le_refl _) (by decide) rfl rfl).rd
            have H := HN.drop
            clear HN
            go_wp2_with (first
              | (at_builtin; refine wpList_append_sld rfl _ _ rfl Try.underlying24 fateInfo rfl (by decide) rfl (H.front 1 rfl) hrow (fcell_one _) (by omega) (by omega) ?_; clear H hrow; intro v' w' H; replace H := H.swap; obtain ⟨a2, cp2, rfl, _⟩ := (H.front 1 rfl).drd.shape)
              | (refine wpList_store_slice rfl _ _ rfl rfl H rfl (by kernel_rfl) (by simp) ?_; clear H; intro w5 H))
            go_meet
            have H9 : Own w w5 (RNetP gr K0 D0 (F ++ [(⟨fd, fy, fc⟩ : Fa)]) late c M :: NetP ga K0 D0 (F ++ [(⟨fd, fy, fc⟩ : Fa)]) late c M k :: blk xb (.cells #[.int .i64 kd, .int .i64 dst, .int .i64 cl, .int .i64 dn, .bool fd, .int .i64 fy, .int .i64 fc] 42) :: [blk fp (.cells #[.int .i64 K, .int .i64 D] 23)]) := rnet_shut (v := .slice a2 (nF + 1) cp2) (u := u) (z := z) HL.out hLm (by
              rw [List.length_append, rows_append, rows_one, hnF.out]
              exact H)
            exact ⟨t, F ++ [⟨fd, fy, fc⟩], late, c, k, M, by omega, rfl, hF1, by omega, by omega, by omega, hb1, hOrd, H9.swap⟩
      case rest =>
        clear H c0 hb hOrd hM hF hc hk htj
        obtain ⟨t', F, late, c, k, M, ht, rfl, hF, hc, hk, hM, hb, hOrd, H⟩ := hcut
        obtain ⟨v, u, z, L, hL, hLm, H⟩ := rnet_open (H.front 1 rfl)
        have HL := Lib.hid hL
        clear hL
        obtain ⟨nF, hnF⟩ : ∃ n, Hid (F.length = n) := ⟨_, rfl⟩
        obtain ⟨nM, hnM⟩ : ∃ n, Hid (M.length = n) := ⟨_, rfl⟩
        rw [hnF.out, hnM.out] at H
        obtain ⟨av, cv, rfl, hv1, hv2⟩ := (H.front 1 rfl).drd.shape
        obtain ⟨az, cz, rfl, hz1, hz2⟩ := (H.front 3 rfl).rd.shape
        have H : Own w wc (blk gr (.cells #[.int .i64 K0, .int .i64 D0, .slice av nF cv, u, .slice az nM cz] 47) :: sld 30 3 (.slice av nF cv) nF (rows fcell F) :: slc 67 3 u L.length (rows lcell L) :: slc 69 3 (.slice az nM cz) nM (rows pcell M) :: NetP ga K0 D0 F late c M k :: blk xb (.cells #[.int .i64 kd, .int .i64 dst, .int .i64 cl, .int .i64 dn, .bool fd, .int .i64 fy, .int .i64 fc] 42) :: [blk fp (.cells #[.int .i64 K, .int .i64 D] 23)]) := H
        go_upto_region 26 with (fail)
        refine wp_region_calm (fun w1 => Own w w1 (blk gr (.cells #[.int .i64 K0, .int .i64 D0, .slice av nF cv, u, .slice az nM cz] 47) :: sld 30 3 (.slice av nF cv) nF (rows fcell F) :: slc 67 3 u L.length (rows lcell L) :: slc 69 3 (.slice az nM cz) nM (rows pcell M) :: NetP ga K0 D0 F late c M k :: blk xb (.cells #[.int .i64 kd, .int .i64 dst, .int .i64 cl, .int .i64 dn, .bool fd, .int .i64 fy, .int .i64 fc] 42) :: [blk fp (.cells #[.int .i64 K, .int .i64 D] 23)])) 17 (by kernel_rfl) (by kernel_rfl) H.drew ?_
        simp only [List.take_succ_cons, List.take_zero, List.drop_succ_cons, List.drop_zero]
        repeat
          first
          | (refine calm_value (v := ?_) (by decide) rfl (fun σ w1 hS => ?_) ?_
             rotate_left
             · have c0 := hS.cells
               first | (go_simp; rfl) | rfl
             simp only [Act.put, List.setIfInBounds_toArray, List.set_cons_zero, List.set_cons_succ])
          | (refine calm_skip (by decide) rfl ?_
             simp only [Act.put, List.setIfInBounds_toArray, List.set_cons_zero, List.set_cons_succ])
        refine calm_call (v := .int .i64 nM) (by decide) rfl (fun w1 => (by go_simp; first | exact ⟨rfl, rfl⟩ | rfl)) (fun σ w1 hS => ?_) ?_
        · refine (netlen_any (hS.front 4 rfl)).mono ?_
          rintro e w2 ⟨rfl, rfl⟩
          exact ⟨by rw [hnM.out], hS⟩
        simp only [Act.put, List.setIfInBounds_toArray, List.set_cons_zero, List.set_cons_succ]
        repeat
          first
          | (refine calm_value (v := ?_) (by decide) rfl (fun σ w1 hS => ?_) ?_
             rotate_left
             · have c0 := hS.cells
               first | (go_simp; rfl) | rfl
             simp only [Act.put, List.setIfInBounds_toArray, List.set_cons_zero, List.set_cons_succ])
          | (refine calm_skip (by decide) rfl ?_
             simp only [Act.put, List.setIfInBounds_toArray, List.set_cons_zero, List.set_cons_succ])
        refine calm_call (v := .int .i64 nF) (by decide) rfl (fun w1 => (by go_simp; first | exact ⟨rfl, rfl⟩ | rfl)) (fun σ w1 hS => ?_) ?_
        · refine (netleft_any (hS.front 4 rfl)).mono ?_
          rintro e w2 ⟨rfl, rfl⟩
          exact ⟨by rw [hnF.out], hS⟩
        simp only [Act.put, List.setIfInBounds_toArray, List.set_cons_zero, List.set_cons_succ]
        repeat
          first
          | (refine calm_value (v := ?_) (by decide) rfl (fun σ w1 hS => ?_) ?_
             rotate_left
             · have c0 := hS.cells
               first | (go_simp; rfl) | rfl
             simp only [Act.put, List.setIfInBounds_toArray, List.set_cons_zero, List.set_cons_succ])
          | (refine calm_skip (by decide) rfl ?_
             simp only [Act.put, List.setIfInBounds_toArray, List.set_cons_zero, List.set_cons_succ])
        refine calm_nil ?_
        intro wd HD
        clear H
        have H : Own w wd (RNetP gr K0 D0 F late c M :: NetP ga K0 D0 F late c M k :: blk xb (.cells #[.int .i64 kd, .int .i64 dst, .int .i64 cl, .int .i64 dn, .bool fd, .int .i64 fy, .int .i64 fc] 42) :: [blk fp (.cells #[.int .i64 K, .int .i64 D] 23)]) := rnet_shut (v := .slice av nF cv) (u := u) (z := .slice az nM cz) HL.out hLm (by rw [hnF.out, hnM.out]; exact HD)
        clear HD HL
        go_wp2
        go_round
        case rel => exact ⟨j + 1, t', F, late, c, k, M, by omega, by omega, by go_num, ht, rfl, hF, hc, hk, hM, hb, hOrd, (((H.front 1 rfl).front 2 rfl).drop)⟩
        case measure => simp [intOf]; omega
    · go_wp2_with fail
      all_goals
        refine (awake_any _).mono ?_
        rintro e w5 ⟨_, rfl, rfl, H5⟩
        go_wp2
        go_ret
        exact ⟨_, rfl, rfl, (H.join H5).bare⟩
end Go.Proofs.Ytnpflnplpipipaa
