/-
  The stable sort of slices of coins: the walk of symMerge, where the second part is of one. (Written by tools/srt.py.)
-/
import Derived.Test.YtfeamlbkogigkaaSrtC4
namespace Go.Proofs.Ytfeamlbkogigkaa
open Go.RowKit
namespace SC
section
variable {w0 w : World} {ps : List Piece} {ok : Coin → Prop} {key : Coin → Int} {B : Nat}
set_option maxRecDepth 100000 in
set_option maxHeartbeats 6400000 in
theorem symR_any {g c N : Nat} {p x q : List Coin} {u : Coin} {a m b : Nat} (hcmp : Cmps w0 ps B ok key) (hoku : ok u) (hokx : ∀ v ∈ x, ok v) (hx : Srt key x) (hx2 : 2 ≤ x.length) (ha : a = p.length) (hm : m = a + x.length) (hb : b = m + 1) (hN : N = (p ++ x ++ [u] ++ q).length) (hNb : N ≤ 1000000)
    (H : Own w0 w (slc 65 2 (.slice (some ⟨g, 0, none⟩) N c) N (rows ce (p ++ x ++ [u] ++ q)) :: ps)) :
    Calls Try.prog 54 #[.slice (some ⟨g, 0, none⟩) N c, .int .i64 a, .int .i64 m, .int .i64 b, cf B] w (Ret fun _ w' => ∃ z, Mrg key x [u] z ∧ Own w0 w' (slc 65 2 (.slice (some ⟨g, 0, none⟩) N c) N (rows ce (p ++ z ++ q)) :: ps)) := by
  have hbN : b ≤ N := by rw [hN]; simp only [List.length_append, List.length_singleton]; omega
  have hNc : N ≤ c := by obtain ⟨_, _, e, h1, _⟩ := H.rd.shape; cases e; exact h1
  have hc2 : c ≤ 9223372036854775807 := by obtain ⟨_, _, e, _, h1⟩ := H.rd.shape; cases e; exact h1
  have hgu : (p ++ x ++ [u] ++ q)[m]? = some u := by
    have : p ++ x ++ [u] ++ q = (p ++ x) ++ u :: q := by simp
    rw [this]; exact get_mid _ _ _ (by rw [List.length_append]; omega)
  have hgx : ∀ (t : Nat) v, x[t]? = some v → (p ++ x ++ [u] ++ q)[a + t]? = some v := by
    intro t v hv
    have : p ++ x ++ [u] ++ q = p ++ (x ++ (u :: q)) := by simp
    rw [this, List.getElem?_append_right (by omega), List.getElem?_append_left (by have := (List.getElem?_eq_some_iff.1 hv).1; omega)]
    rw [show a + t - p.length = t by omega]
    exact hv
  have HGU := Lib.hid hgu
  have HGX := Lib.hid hgx
  have HP := Lib.hid ha
  have HM := Lib.hid hm
  have HN := Lib.hid hN
  have HC := Lib.hid hcmp
  have HOK := Lib.hid hokx
  have HS := Lib.hid hx
  obtain ⟨L, hL⟩ : ∃ L, Hid (p ++ x ++ [u] ++ q = L) := ⟨_, Lib.hid rfl⟩
  rw [hL.out] at H HGU HGX
  have hmN : m < N := by omega
  have ham : a + 2 ≤ m := by omega
  have hma : (((m : Int) - (a : Int)) == 1) = false := by simp; omega
  have hbm : ((b : Int) - (m : Int)) = 1 := by omega
  have hbm2 : m ≤ b := by omega
  clear ha hb hN hcmp hokx hx hgu hgx hm hx2
  go_enter Try.func54, Try.ntmps54
  go_wp2_with fail
  go_loopw [14, 15] (fun s10 s11 wx => ∃ (i j : Nat), s10 = .int .i64 i ∧ s11 = .int .i64 j ∧ a ≤ i ∧ i ≤ j ∧ j ≤ m ∧ Hid (∀ (t : Nat) (v : Coin), a + t < i → x[t]? = some v → key v ≤ key u) ∧ Hid (∀ (t : Nat) (v : Coin), j ≤ a + t → x[t]? = some v → key u < key v) ∧ Own w0 wx (slc 65 2 (.slice (some ⟨g, 0, none⟩) N c) N (rows ce L) :: ps)) (fun s10 s11 _ => (intOf s11).toNat - (intOf s10).toNat)
  case atStart => exact ⟨a, m, rfl, rfl, by omega, by omega, by omega, Lib.hid (fun t v h => by omega), Lib.hid (fun t v h hv => by have := (List.getElem?_eq_some_iff.1 hv).1; have := HM.out; omega), H⟩
  case round =>
    clear H
    obtain ⟨i, j, rfl, rfl, hmi, hij, hjb, hlo, hhi, H⟩ := hrel
    by_cases hlt : i < j
    · obtain ⟨h, hh⟩ : ∃ h, Hid ((i + j) / 2 = h) := ⟨_, rfl⟩
      have hih : i ≤ h := by rw [← hh.out]; omega
      have hhj : h < j := by rw [← hh.out]; omega
      have hsI : (((i : Int) + (j : Int)) / 2) = (h : Int) := by have := hh.out; omega
      have hsU : IntKind.u64.wrap ((i : Int) + (j : Int)) = (i : Int) + (j : Int) := by simp [IntKind.wrap, IntKind.bits, IntKind.signed]; omega
      obtain ⟨t, ht⟩ : ∃ t, h = a + t := ⟨h - a, by omega⟩
      obtain ⟨v, hv⟩ := get_of_lt (l := x) (k := t) (by have := HM.out; omega)
      have hg := HGX.out t v hv
      rw [← ht] at hg
      have HG := Lib.hid hg
      have hokv : ok v := HOK.out v (List.mem_of_getElem? hv)
      have hcall := fun (wz : World) (h : Own w0 wz (slc 65 2 (.slice (some ⟨g, 0, none⟩) N c) N (rows ce L) :: ps)) => HC.out wz _ h u v hoku hokv
      have hcl := cmpI_lt (key u) (key v)
      obtain ⟨cv, hcv⟩ : ∃ cv, Hid (cmpI (key u) (key v) = cv) := ⟨_, rfl⟩
      simp only [hcv.out] at hcall hcl
      have HCALL := Lib.hid hcall
      have hhN : (h : Int) < (N : Int) := by omega
      have hlo2 : ¬ key u < key v → Hid (∀ (t' : Nat) (v' : Coin), a + t' < h + 1 → x[t']? = some v' → key v' ≤ key u) := fun hk => Lib.hid fun t' v' ht' hv' => by
        by_cases e : t' = t
        · subst e; rw [hv] at hv'; cases hv'; omega
        · have h1 := List.pairwise_iff_getElem.1 HS.out t' t (List.getElem?_eq_some_iff.1 hv').1 (List.getElem?_eq_some_iff.1 hv).1 (by omega)
          rw [(List.getElem?_eq_some_iff.1 hv').2, (List.getElem?_eq_some_iff.1 hv).2] at h1
          omega
      have hhi2 : key u < key v → Hid (∀ (t' : Nat) (v' : Coin), h ≤ a + t' → x[t']? = some v' → key u < key v') := fun hk => Lib.hid fun t' v' ht' hv' => by
        by_cases e : t' = t
        · subst e; rw [hv] at hv'; cases hv'; exact hk
        · have h1 := List.pairwise_iff_getElem.1 HS.out t t' (List.getElem?_eq_some_iff.1 hv).1 (List.getElem?_eq_some_iff.1 hv').1 (by omega)
          rw [(List.getElem?_eq_some_iff.1 hv').2, (List.getElem?_eq_some_iff.1 hv).2] at h1
          omega
      have HLO2 := Lib.hid hlo2
      have HHI2 := Lib.hid hhi2
      clear hlo2 hhi2 hg hv ht hcall
      go_upto_region 17 with (fail)
      refine wp_region_calm (fun w1 => Own w0 w1 (slc 65 2 (.slice (some ⟨g, 0, none⟩) N c) N (rows ce L) :: ps)) 10 (by kernel_rfl) (by kernel_rfl) H.drew ?_
      simp only [List.take_succ_cons, List.take_zero, List.drop_succ_cons, List.drop_zero]
      have hmNI : (m : Int) < (N : Int) := by omega
      repeat
        first
        | (refine calm_value (v := ?_) (by decide) rfl (fun σ w1 hS => ?_) ?_
           rotate_left
           · obtain ⟨c1, c1'⟩ := el hS.rd HG.out; obtain ⟨c2, c2'⟩ := el hS.rd HGU.out
             first | (go_simp; rfl) | rfl
           simp only [Act.put, List.setIfInBounds_toArray, List.set_cons_zero, List.set_cons_succ])
        | (refine calm_skip (by decide) rfl ?_
           simp only [Act.put, List.setIfInBounds_toArray, List.set_cons_zero, List.set_cons_succ])
      refine calm_call (v := .int .i64 cv) (by decide) rfl (fun w1 => (by go_simp; first | exact ⟨rfl, rfl⟩ | rfl)) (fun σ w1 hS => ?_) ?_
      · refine (HCALL.out w1 hS).mono ?_
        rintro e w2 ⟨_, rfl, rfl, h2⟩
        exact ⟨rfl, hS.join h2⟩
      simp only [Act.put, List.setIfInBounds_toArray, List.set_cons_zero, List.set_cons_succ]
      refine calm_nil ?_
      intro wd HD
      clear H
      by_cases hk : key u < key v
      · have hk2 : decide (cv < 0) = true := by rw [hcl]; simp [hk]
        have hn := HHI2.out hk
        clear hk hcl HLO2
        go_wp2
        go_roundw
        case rel => exact ⟨i, h, rfl, by go_num, by omega, by omega, by omega, hlo, hn, HD⟩
        case measure => simp [intOf]; omega
      · have hk2 : decide (cv < 0) = false := by rw [hcl]; simp [hk]
        have hn := HLO2.out hk
        clear hk hcl HHI2
        go_wp2
        go_roundw
        case rel => exact ⟨h + 1, j, by go_num, rfl, by omega, by omega, by omega, hn, hhi, HD⟩
        case measure => simp [intOf]; omega
    · have hij2 : i = j := by omega
      subst hij2
      obtain ⟨x1, x2, hxs, hx1⟩ := split_at x (i - a) (by have := HM.out; omega)
      have hle1 : ∀ v ∈ x1, key v ≤ key u := fun v hv => by
        obtain ⟨t, ht, rfl⟩ := List.getElem_of_mem hv
        refine hlo.out t _ (by omega) ?_
        rw [hxs, List.getElem?_append_left ht, List.getElem?_eq_getElem ht]
      have hgt2 : ∀ v ∈ x2, key u < key v := fun v hv => by
        obtain ⟨t, ht, rfl⟩ := List.getElem_of_mem hv
        refine hhi.out (x1.length + t) _ (by omega) ?_
        rw [hxs, List.getElem?_append_right (by omega), Nat.add_sub_cancel_left, List.getElem?_eq_getElem ht]
      have hmrg : Mrg key x [u] (x1 ++ u :: x2) := by
        have := Mrg.one_right (key := key) (y := u) (x1 := x1) (x2 := x2) (by rw [← hxs]; exact HS.out) hle1 hgt2
        rwa [← hxs] at this
      have HMRG := Lib.hid hmrg
      have HX1 := Lib.hid hx1
      have hx12 : Hid (i + x2.length = m) := Lib.hid (by have h1 := HM.out; rw [hxs, List.length_append] at h1; omega)
      have hLe : Hid (L = p ++ x1 ++ x2 ++ u :: q) := Lib.hid (by rw [← hL.out, hxs]; simp)
      have hHL : Hid (L.length = N) := Lib.hid (by rw [← hL.out, ← HN.out])
      clear hlo hhi hxs hle1 hgt2 hmrg hx1 hlt
      rw [hLe.out] at H
      go_wp2_with fail
      go_loopw [17] (fun s13 wx => ∃ (k : Nat) (X1 X2 : List Coin), s13 = .int .i64 k ∧ i ≤ k ∧ k ≤ m ∧ Hid (x2 = X1 ++ X2) ∧ Hid (i + X1.length = k) ∧ Own w0 wx (slc 65 2 (.slice (some ⟨g, 0, none⟩) N c) N (rows ce (p ++ x1 ++ X1 ++ u :: (X2 ++ q))) :: ps)) (fun s13 _ => (intOf s13).toNat)
      case atStart => exact ⟨m, x2, [], rfl, by omega, by omega, Lib.hid (by simp), hx12, by simpa using H⟩
      case round =>
        clear H
        obtain ⟨k, X1, X2, rfl, hk1, hk2, hx2, hXl, H⟩ := hrel
        by_cases hki : i < k
        · obtain ⟨X3, v, hX1⟩ := last_split X1 (by have := hXl.out; omega)
          subst hX1
          have el1 : p ++ x1 ++ (X3 ++ [v]) ++ u :: (X2 ++ q) = (p ++ x1 ++ X3) ++ v :: ([] ++ u :: (X2 ++ q)) := by simp
          rw [el1] at H
          obtain ⟨k', rfl⟩ : ∃ k', k = k' + 1 := ⟨k - 1, by omega⟩
          have hkl : k' = (p ++ x1 ++ X3).length := by
            have h1 := hXl.out; have h2 := HP.out; have h3 := HX1.out
            rw [List.length_append, List.length_singleton] at h1
            simp only [List.length_append]
            omega
          have hLn : ((p ++ x1 ++ X3) ++ v :: ([] ++ u :: (X2 ++ q))).length = N := by
            rw [← hHL.out, hLe.out, hx2.out]
            simp only [List.length_append, List.length_cons, List.length_nil]
            omega
          have hg1 : ((p ++ x1 ++ X3) ++ v :: ([] ++ u :: (X2 ++ q)))[k']? = some v := get_mid _ _ _ hkl
          have hg2 : ((p ++ x1 ++ X3) ++ v :: ([] ++ u :: (X2 ++ q)))[k' + 1]? = some u := by
            have : (p ++ x1 ++ X3) ++ v :: ([] ++ u :: (X2 ++ q)) = ((p ++ x1 ++ X3) ++ [v]) ++ u :: (X2 ++ q) := by simp
            rw [this]
            exact get_mid _ _ _ (by rw [List.length_append (bs := [v]), List.length_singleton, ← hkl])
          have hsw := set_swap (p ++ x1 ++ X3) [] (X2 ++ q) v u (i := k') (j := k' + 1) hkl (by simp only [List.length_nil]; omega)
          obtain ⟨M, hM⟩ : ∃ M, Hid ((p ++ x1 ++ X3) ++ v :: ([] ++ u :: (X2 ++ q)) = M) := ⟨_, Lib.hid rfl⟩
          rw [hM.out] at H hg1 hg2 hsw hLn
          have HG1 := Lib.hid hg1
          have HG2 := Lib.hid hg2
          have e1 : (rows ce M).take ((k' + 1) * 2) ++ ce v ++ (rows ce M).drop ((k' + 1) * 2 + 2) = rows ce (M.set (k' + 1) v) := set_rows (by rw [hLn]; omega) v
          have e2 : (rows ce (M.set (k' + 1) v)).take (k' * 2) ++ ce u ++ (rows ce (M.set (k' + 1) v)).drop (k' * 2 + 2) = rows ce (p ++ x1 ++ X3 ++ u :: ((v :: X2) ++ q)) := by
            rw [set_rows (by rw [List.length_set, hLn]; omega) u, List.set_comm _ _ (by omega), hsw]
            simp
          have E1 := Lib.hid e1
          have E2 := Lib.hid e2
          have hik : i ≤ k' := by omega
          have hikI : (i : Int) < (k' : Int) + 1 := by omega
          have hkN : (k' : Int) < (N : Int) := by omega
          have hkN1 : (k' : Int) + 1 < (N : Int) := by omega
          have hkT : ((k' : Int) + 1).toNat = k' + 1 := by omega
          have hkw : IntKind.i64.wrap (k' : Int) = (k' : Int) := IntWalk.i64_in _ ⟨by omega, by omega⟩
          have hX' : Hid (x2 = X3 ++ (v :: X2)) := Lib.hid (by rw [hx2.out]; simp)
          have hXl' : Hid (i + X3.length = k') := Lib.hid (by have := hXl.out; rw [List.length_append, List.length_singleton] at this; omega)
          clear hg1 hg2 hsw hLn e1 e2 el1 hkl hM hki
          go_upto_region 23 with (fail)
          refine wp_region_pres (fun _ w1 => Own w0 w1 (slc 65 2 (.slice (some ⟨g, 0, none⟩) N c) N (rows ce M) :: ps)) 14 [] [2, 3, 4] (by kernel_rfl) (by kernel_rfl) (by kernel_rfl) (by kernel_rfl) (fun _ _ d _ _ h => by cases d <;> exact h) ⟨_, _, rfl, fun w => (by first | rfl | (go_simp; rfl)), _, _, rfl, fun w => (by first | rfl | (go_simp; rfl)), _, _, rfl, fun w => (by first | rfl | (go_simp; rfl)), rfl⟩ H.drew ?_
          simp only [List.take_succ_cons, List.take_zero, List.drop_succ_cons, List.drop_zero]
          repeat
            first
            | (refine calm_value (v := ?_) (by decide) rfl (fun σ w1 hS => ?_) ?_
               rotate_left
               · obtain ⟨c1, c1'⟩ := el hS.rd HG1.out; obtain ⟨c2, c2'⟩ := el hS.rd HG2.out
                 first | (go_simp; rfl) | rfl
               simp only [Act.put, List.setIfInBounds_toArray, List.set_cons_zero, List.set_cons_succ])
            | (refine calm_skip (by decide) rfl ?_
               simp only [Act.put, List.setIfInBounds_toArray, List.set_cons_zero, List.set_cons_succ])
          refine calm_nil ?_
          intro σ2 wd2 _ H2
          simp only [putNew, List.foldl_nil]
          clear H
          go_wp2_with (first
            | (refine wpList_store_elem rfl _ _ rfl (i := k' + 1) (by first | rfl | (rw [Nat.mul_one]; rfl)) H2 (ce v) rfl (by kernel_rfl) rfl (by omega) (e_one v) ?_; clear H2; intro w5 H; rw [E1.out] at H)
            | (refine wpList_store_elem rfl _ _ rfl (i := k') (by first | rfl | (rw [Nat.mul_one]; rfl)) H (ce u) rfl (by kernel_rfl) rfl (by omega) (e_one u) ?_; clear H; intro w6 H; rw [E2.out] at H))
          go_roundw
          case rel => exact ⟨k', X3, v :: X2, by go_num, by omega, by omega, hX', hXl', H⟩
          case measure => simp [intOf]
        · have hik2 : k = i := by omega
          subst hik2
          have hX10 : X1 = [] := by have := hXl.out; exact List.eq_nil_of_length_eq_zero (by omega)
          have e1 : Hid (x2 = X2) := Lib.hid (by rw [hx2.out, hX10, List.nil_append])
          have el2 : p ++ x1 ++ X1 ++ u :: (X2 ++ q) = p ++ (x1 ++ u :: x2) ++ q := by rw [hX10, e1.out]; simp
          rw [el2] at H
          clear el2 hX10 hki
          go_wp2
          go_end0
          exact ⟨_, rfl, _, HMRG.out, by simpa using H⟩
end
end SC
end Go.Proofs.Ytfeamlbkogigkaa
