/-
  The stable sort of slices of ints: the walk of insertionSort. (Written by tools/srt.py.)
-/
import Derived.Test.YtfeamlbkogigkaaSrtI2
namespace Go.Proofs.Ytfeamlbkogigkaa
open Go.RowKit
namespace SI
/-- The function that compares. -/
abbrev cf (B : Nat) : Value := .func (.func 33) #[] #[.pointer (some ⟨B, 0, none⟩)]
abbrev ca (B : Nat) (x y : Int) : Array Value := #[.int .i64 x, .int .i64 y, .pointer (some ⟨B, 0, none⟩)]
abbrev cg : Nat := 33
/-- What is asked of it. -/
def Cmps (w0 : World) (ps : List Piece) (B : Nat) (ok : Int → Prop) (key : Int → Int) : Prop :=
  ∀ (wz : World) (row : Piece), Own w0 wz (row :: ps) → ∀ x y, ok x → ok y → Calls Try.prog cg (ca B x y) wz (Ret fun v w' => v = .int .i64 (cmpI (key x) (key y)) ∧ Own wz w' [])
section
variable {w0 w : World} {ps : List Piece} {ok : Int → Prop} {key : Int → Int} {B : Nat}
set_option maxRecDepth 100000 in
set_option maxHeartbeats 3200000 in
theorem insert_any {g c N : Nat} {p s q : List Int} {a b : Nat} (hcmp : Cmps w0 ps B ok key) (hok : ∀ x ∈ s, ok x) (ha : a = p.length) (hb : b = a + s.length) (hN : N = (p ++ s ++ q).length) (hNb : N ≤ 1000000)
    (H : Own w0 w (slc 3 1 (.slice (some ⟨g, 0, none⟩) N c) N (rows ie (p ++ s ++ q)) :: ps)) :
    Calls Try.prog 49 #[.slice (some ⟨g, 0, none⟩) N c, .int .i64 a, .int .i64 b, cf B] w (Ret fun _ w' => ∃ s', Srt key s' ∧ StEq key s s' ∧ Own w0 w' (slc 3 1 (.slice (some ⟨g, 0, none⟩) N c) N (rows ie (p ++ s' ++ q)) :: ps)) := by
  have hbN : b ≤ N := by rw [hN]; simp only [List.length_append]; omega
  have hNc : N ≤ c := by obtain ⟨_, _, e, h1, _⟩ := H.rd.shape; cases e; exact h1
  have hc2 : c ≤ 9223372036854775807 := by obtain ⟨_, _, e, _, h1⟩ := H.rd.shape; cases e; exact h1
  have HP := Lib.hid ha
  have HB := Lib.hid hb
  have HN := Lib.hid hN
  have HC := Lib.hid hcmp
  have HOK := Lib.hid hok
  have hab : a ≤ b := by omega
  clear ha hb hN hcmp hok
  go_enter Try.func49, Try.ntmps49
  by_cases hs0 : s.length = 0
  · have hs : s = [] := List.eq_nil_of_length_eq_zero hs0
    have hba : Hid (b = a) := Lib.hid (by rw [HB.out, hs0]; rfl)
    have hlt : ¬ ((a : Int) + 1 < (b : Int)) := by rw [hba.out]; omega
    subst hs
    clear hs0
    go_wp2_with fail
    go_loop [8] (fun s8 => s8 = .int .i64 ((a : Int) + 1)) (fun _ => 0)
    case atStart => go_num
    case round =>
      obtain rfl := hrel
      go_wp2
      go_end0
      exact ⟨_, rfl, [], List.Pairwise.nil, StEq.refl _, by simpa using H⟩
  · have hs1 : a + 1 ≤ b := by have := HB.out; omega
    go_wp2_with fail
    go_loopw [8] (fun s8 wx => ∃ (i : Nat) (S1 S2 U : List Int), a + 1 ≤ i ∧ i ≤ b ∧ s8 = .int .i64 i ∧ Hid (s = S1 ++ S2) ∧ Hid (a + S1.length = i) ∧ Hid (Srt key U) ∧ Hid (StEq key S1 U) ∧ Own w0 wx (slc 3 1 (.slice (some ⟨g, 0, none⟩) N c) N (rows ie (p ++ U ++ S2 ++ q)) :: ps)) (fun s8 _ => b - (intOf s8).toNat)
    case atStart =>
      obtain ⟨x, s2, hs⟩ : ∃ x s2, s = x :: s2 := by
        cases s with
        | nil => simp at hs0
        | cons x s2 => exact ⟨x, s2, rfl⟩
      exact ⟨a + 1, [x], s2, [x], by omega, hs1, by go_num, Lib.hid (by rw [hs]; rfl), Lib.hid rfl, Lib.hid (List.pairwise_singleton ..), Lib.hid (StEq.refl _), by rw [hs] at H; simpa using H⟩
    case round =>
      clear H hs0
      obtain ⟨i, S1, S2, U, hi1, hi2, rfl, hs, hl, hU, hSU, H⟩ := hrel
      by_cases hib : i < b
      · obtain ⟨x, S3, hS2⟩ : ∃ x S3, S2 = x :: S3 := by
          cases S2 with
          | nil => exfalso; have h1 := HB.out; have h2 := hl.out; rw [hs.out] at h1; simp at h1; omega
          | cons x S3 => exact ⟨x, S3, rfl⟩
        subst hS2
        have hokx : ok x := HOK.out x (by rw [hs.out]; simp)
        have hokU : Hid (∀ u ∈ U, ok u) := Lib.hid fun u hu => HOK.out u (by rw [hs.out]; exact List.mem_append.2 (.inl (hSU.out.symm.mem hu)))
        have hUl : Hid (a + U.length = i) := Lib.hid (by rw [← hSU.out.length]; exact hl.out)
        have hibI : (i : Int) < (b : Int) := by omega
        go_upto_block 1 with (fail)
        go_cut [] (fun wx => ∃ U', Hid (Srt key U') ∧ Hid (StEq key (S1 ++ [x]) U') ∧ Own w0 wx (slc 3 1 (.slice (some ⟨g, 0, none⟩) N c) N (rows ie (p ++ U' ++ S3 ++ q)) :: ps))
        case first =>
          go_wp2_with fail
          go_loopw [9] (fun s9 wx => ∃ (j : Nat) (U1 U2 : List Int), a ≤ j ∧ j ≤ i ∧ s9 = .int .i64 j ∧ Hid (U = U1 ++ U2) ∧ Hid (a + U1.length = j) ∧ Hid (∀ u ∈ U2, key x < key u) ∧ Own w0 wx (slc 3 1 (.slice (some ⟨g, 0, none⟩) N c) N (rows ie (p ++ U1 ++ x :: (U2 ++ S3 ++ q))) :: ps)) (fun s9 _ => (intOf s9).toNat)
          case atStart => exact ⟨i, U, [], by omega, by omega, rfl, Lib.hid (by simp), hUl, Lib.hid (by simp), by simpa using H⟩
          case round =>
            clear H
            obtain ⟨j, U1, U2, hj1, hj2, rfl, hU12, hU1, hgt, H⟩ := hrel
            have hfin : ∀ wz, (∀ u ∈ U1, key u ≤ key x) → Own w0 wz (slc 3 1 (.slice (some ⟨g, 0, none⟩) N c) N (rows ie (p ++ U1 ++ x :: (U2 ++ S3 ++ q))) :: ps) → ∃ U', Hid (Srt key U') ∧ Hid (StEq key (S1 ++ [x]) U') ∧ Own w0 wz (slc 3 1 (.slice (some ⟨g, 0, none⟩) N c) N (rows ie (p ++ U' ++ S3 ++ q)) :: ps) := by
              intro wz hle h
              have hs' : Srt key (U1 ++ U2) := by rw [← hU12.out]; exact hU.out
              have hm := Mrg.one_right (y := x) hs' hle hgt.out
              refine ⟨U1 ++ x :: U2, Lib.hid hm.1, Lib.hid (StEq.trans ((hSU.out.app (StEq.refl [x]))) (by rw [hU12.out]; exact hm.2)), ?_⟩
              simpa using h
            have HFIN := Lib.hid hfin
            clear hfin
            by_cases hja : a < j
            · obtain ⟨U3, u, hU3⟩ := last_split U1 (by have := hU1.out; omega)
              subst hU3
              have hjl : j = (p ++ U3).length + 1 := by
                have h1 := hU1.out
                have h2 := HP.out
                rw [List.length_append, List.length_singleton] at h1
                rw [List.length_append]
                omega
              have el1 : p ++ (U3 ++ [u]) ++ x :: (U2 ++ S3 ++ q) = (p ++ U3) ++ u :: ([] ++ x :: (U2 ++ S3 ++ q)) := by simp
              rw [el1] at H HFIN
              have hg1 : ((p ++ U3) ++ u :: ([] ++ x :: (U2 ++ S3 ++ q)))[j - 1]? = some u := get_mid _ _ _ (by omega)
              have hg2 : ((p ++ U3) ++ u :: ([] ++ x :: (U2 ++ S3 ++ q)))[j]? = some x := by
                have : (p ++ U3) ++ u :: ([] ++ x :: (U2 ++ S3 ++ q)) = ((p ++ U3) ++ [u]) ++ x :: (U2 ++ S3 ++ q) := by simp
                rw [this]
                exact get_mid _ _ _ (by simp only [List.length_append, List.length_cons, List.length_nil] at hjl ⊢; omega)
              have hLn : ((p ++ U3) ++ u :: ([] ++ x :: (U2 ++ S3 ++ q))).length = N := by
                have h1 := HN.out
                have h2 := hUl.out
                have h3 := hU12.out
                have h4 := hl.out
                rw [hs.out] at h1
                rw [h3] at h2
                simp only [List.length_append, List.length_cons, List.length_nil] at h1 h2 ⊢
                omega
              obtain ⟨j', rfl⟩ : ∃ j', j = j' + 1 := ⟨j - 1, by omega⟩
              have hsw := set_swap (p ++ U3) [] (U2 ++ S3 ++ q) u x (i := j') (j := j' + 1) (by omega) (by simp only [List.length_nil]; omega)
              rw [Nat.add_sub_cancel] at hg1
              obtain ⟨L, hL⟩ : ∃ L, Hid ((p ++ U3) ++ u :: ([] ++ x :: (U2 ++ S3 ++ q)) = L) := ⟨_, Lib.hid rfl⟩
              rw [hL.out] at H hg1 hg2 hsw hLn HFIN
              have HG1 := Lib.hid hg1
              have HG2 := Lib.hid hg2
              have e1 : (rows ie L).take ((j' + 1) * 1) ++ ie u ++ (rows ie L).drop ((j' + 1) * 1 + 1) = rows ie (L.set (j' + 1) u) := set_rows (by rw [hLn]; omega) u
              have e2 : (rows ie (L.set (j' + 1) u)).take (j' * 1) ++ ie x ++ (rows ie (L.set (j' + 1) u)).drop (j' * 1 + 1) = rows ie (p ++ U3 ++ x :: ((u :: U2) ++ S3 ++ q)) := by
                rw [set_rows (by rw [List.length_set, hLn]; omega) x, List.set_comm _ _ (by omega), hsw]
                simp
              have E1 := Lib.hid e1
              have E2 := Lib.hid e2
              have hU3l : Hid (a + U3.length = j') := Lib.hid (by have := HP.out; simp only [List.length_append] at hjl; omega)
              have hoku : ok u := hokU.out u (by rw [hU12.out]; simp)
              have hcall := fun (wz : World) (h : Own w0 wz (slc 3 1 (.slice (some ⟨g, 0, none⟩) N c) N (rows ie L) :: ps)) => HC.out wz _ h x u hokx hoku
              have hcl := cmpI_lt (key x) (key u)
              obtain ⟨cv, hcv⟩ : ∃ cv, Hid (cmpI (key x) (key u) = cv) := ⟨_, rfl⟩
              simp only [hcv.out] at hcall hcl
              have HCALL := Lib.hid hcall
              have hj1' : a ≤ j' := by omega
              have hjaI : (a : Int) < (j' : Int) + 1 := by omega
              have hjN : (j' : Int) + 1 < (N : Int) := by omega
              have hjT : ((j' : Int) + 1).toNat = j' + 1 := by omega
              have hjw : IntKind.i64.wrap (j' : Int) = (j' : Int) := IntWalk.i64_in _ ⟨by omega, by omega⟩
              have hjN0 : (j' : Int) < (N : Int) := by omega
              have hj0 : (0 : Int) ≤ (j' : Int) := by omega
              have hjs : ((j' : Int) + 1 - 1) = (j' : Int) := by omega
              clear hg1 hg2 hsw hLn e1 e2 el1 hjl hL hcall hja hU1 hj1
              go_upto_region 4 with (fail)
              refine wp_region_calm (fun w1 => Own w0 w1 (slc 3 1 (.slice (some ⟨g, 0, none⟩) N c) N (rows ie L) :: ps)) 16 (by kernel_rfl) (by kernel_rfl) H.drew ?_
              simp only [List.take_succ_cons, List.take_zero, List.drop_succ_cons, List.drop_zero]
              repeat
                first
                | (refine calm_value (v := ?_) (by decide) rfl (fun σ w1 hS => ?_) ?_
                   rotate_left
                   · obtain ⟨c1, c1'⟩ := el hS.rd HG1.out; obtain ⟨c2, c2'⟩ := el hS.rd HG2.out
                     first | (go_simp; rfl) | rfl
                   simp only [Act.put, List.setIfInBounds_toArray, List.set_cons_zero, List.set_cons_succ])
                | (refine calm_skip (by decide) rfl ?_
                   simp only [Act.put, List.setIfInBounds_toArray, List.set_cons_zero, List.set_cons_succ])
              refine calm_call (v := .int .i64 cv) (by decide) rfl (fun w1 => (by go_simp; first | exact ⟨rfl, rfl⟩ | rfl)) (fun σ w1 hS => ?_) ?_
              · refine (HCALL.out w1 hS).mono ?_
                rintro e w2 ⟨_, rfl, rfl, h2⟩
                exact ⟨rfl, hS.join h2⟩
              simp only [Act.put, List.setIfInBounds_toArray, List.set_cons_zero, List.set_cons_succ]
              repeat
                first
                | (refine calm_value (v := ?_) (by decide) rfl (fun σ w1 hS => ?_) ?_
                   rotate_left
                   · skip
                     first | (go_simp; rfl) | rfl
                   simp only [Act.put, List.setIfInBounds_toArray, List.set_cons_zero, List.set_cons_succ])
                | (refine calm_skip (by decide) rfl ?_
                   simp only [Act.put, List.setIfInBounds_toArray, List.set_cons_zero, List.set_cons_succ])
              refine calm_nil ?_
              intro wd HD
              clear H
              by_cases hxu : key x < key u
              · have hxu2 : decide (key x < key u) = true := by simp [hxu]
                have hgt2 : Hid (∀ v ∈ u :: U2, key x < key v) := Lib.hid fun v hv => by
                  rcases List.mem_cons.1 hv with rfl | hv
                  · exact hxu
                  · exact hgt.out v hv
                have hU' : Hid (U = U3 ++ (u :: U2)) := Lib.hid (by rw [hU12.out]; simp)
                rw [hxu2]
                clear hxu hxu2 HFIN hcl
                go_upto_region 6 with (fail)
                refine wp_region_pres (fun _ w1 => Own w0 w1 (slc 3 1 (.slice (some ⟨g, 0, none⟩) N c) N (rows ie L) :: ps)) 14 [] [2, 3, 4] (by kernel_rfl) (by kernel_rfl) (by kernel_rfl) (by kernel_rfl) (fun _ _ d _ _ h => by cases d <;> exact h) ⟨_, _, rfl, fun w => (by first | rfl | (go_simp; rfl)), _, _, rfl, fun w => (by first | rfl | (go_simp; rfl)), _, _, rfl, fun w => (by first | rfl | (go_simp; rfl)), rfl⟩ HD.drew ?_
                simp only [List.take_succ_cons, List.take_zero, List.drop_succ_cons, List.drop_zero]
                repeat
                  first
                  | (refine calm_value (v := ?_) (by decide) rfl (fun σ w1 hS => ?_) ?_
                     rotate_left
                     · obtain ⟨c1, c1'⟩ := el hS.rd HG1.out; obtain ⟨c2, c2'⟩ := el hS.rd HG2.out
                       first | (go_simp; rfl) | rfl
                     simp only [Act.put, List.setIfInBounds_toArray, List.set_cons_zero, List.set_cons_succ])
                  | (refine calm_skip (by decide) rfl ?_
                     simp only [Act.put, List.setIfInBounds_toArray, List.set_cons_zero, List.set_cons_succ])
                refine calm_nil ?_
                intro σ2 wd2 _ H2
                simp only [putNew, List.foldl_nil]
                clear HD
                go_wp2_with (first
                  | (refine wpList_store_elem rfl _ _ rfl (i := j' + 1) (by first | rfl | (rw [Nat.mul_one]; rfl)) H2 (ie u) rfl (by kernel_rfl) rfl (by omega) (e_one u) ?_; clear H2; intro w5 H; rw [E1.out] at H)
                  | (refine wpList_store_elem rfl _ _ rfl (i := j') (by first | rfl | (rw [Nat.mul_one]; rfl)) H (ie x) rfl (by kernel_rfl) rfl (by omega) (e_one x) ?_; clear H; intro w6 H; rw [E2.out] at H))
                go_roundw
                case rel => exact ⟨j', U3, u :: U2, hj1', by omega, by go_num, hU', hU3l, hgt2, H⟩
                case measure => simp [intOf]
              · have hxu2 : decide (key x < key u) = false := by simp [hxu]
                rw [hxu2]
                have hle : Hid (∀ v ∈ U3 ++ [u], key v ≤ key x) := Lib.hid fun v hv => by
                  have hs' : Srt key ((U3 ++ [u]) ++ U2) := by rw [← hU12.out]; exact hU.out
                  rcases List.mem_append.1 hv with hv | hv
                  · have := (hs'.left).across v hv u (by simp); omega
                  · simp at hv; subst hv; omega
                clear hxu hxu2 hcl
                go_wp2
                go_meet
                exact HFIN.out _ hle.out HD
            · have hja2 : j = a := by omega
              have hU10 : U1 = [] := by have := hU1.out; exact List.eq_nil_of_length_eq_zero (by omega)
              subst hja2
              clear hja
              go_upto_region 4 with (fail)
              refine wp_region_calm (fun w1 => Own w0 w1 (slc 3 1 (.slice (some ⟨g, 0, none⟩) N c) N (rows ie (p ++ U1 ++ x :: (U2 ++ S3 ++ q))) :: ps)) 16 (by kernel_rfl) (by kernel_rfl) H.drew ?_
              simp only [List.take_succ_cons, List.take_zero, List.drop_succ_cons, List.drop_zero]
              repeat
                first
                | (refine calm_value (v := ?_) (by decide) rfl (fun σ w1 hS => ?_) ?_
                   rotate_left
                   · skip
                     first | (go_simp; rfl) | rfl
                   simp only [Act.put, List.setIfInBounds_toArray, List.set_cons_zero, List.set_cons_succ])
                | (refine calm_skip (by decide) rfl ?_
                   simp only [Act.put, List.setIfInBounds_toArray, List.set_cons_zero, List.set_cons_succ])
              refine calm_nil ?_
              intro wd HD
              clear H
              go_wp2
              go_meet
              exact HFIN.out _ (by rw [hU10]; simp) HD
        case rest =>
          clear H
          obtain ⟨U', hs', he', H⟩ := hcut
          go_wp2
          go_roundw
          case rel => exact ⟨i + 1, S1 ++ [x], S3, U', by omega, by omega, by go_num, Lib.hid (by rw [hs.out]; simp), Lib.hid (by rw [List.length_append, ← Nat.add_assoc, hl.out]; rfl), hs', he', H⟩
          case measure => simp [intOf]; omega
      · have hib2 : i = b := by omega
        subst hib2
        have hS20 : S2 = [] := by
          have h1 := HB.out; have h2 := hl.out
          rw [hs.out, List.length_append] at h1
          exact List.eq_nil_of_length_eq_zero (by omega)
        have hs1' : s = S1 := by rw [hs.out, hS20, List.append_nil]
        rw [hS20, List.append_nil] at H
        have HE := Lib.hid hs1'
        clear hS20 hs1'
        go_wp2
        go_end0
        exact ⟨_, rfl, U, hU.out, by rw [HE.out]; exact hSU.out, H⟩
end
end SI
end Go.Proofs.Ytfeamlbkogigkaa
