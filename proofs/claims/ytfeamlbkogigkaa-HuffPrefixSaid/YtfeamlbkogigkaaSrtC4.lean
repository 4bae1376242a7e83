/-
  The stable sort of slices of coins: the walk of symMerge, where one part is of one. (Written by tools/srt.py.)
-/
import Derived.Test.YtfeamlbkogigkaaSrtC3
namespace Go.Proofs.Ytfeamlbkogigkaa
open Go.RowKit
namespace SC
section
variable {w0 w : World} {ps : List Piece} {ok : Coin → Prop} {key : Coin → Int} {B : Nat}
set_option maxRecDepth 100000 in
set_option maxHeartbeats 6400000 in
theorem symL_any {g c N : Nat} {p y q : List Coin} {u : Coin} {a m b : Nat} (hcmp : Cmps w0 ps B ok key) (hoku : ok u) (hoky : ∀ v ∈ y, ok v) (hy : Srt key y) (ha : a = p.length) (hm : m = a + 1) (hb : b = m + y.length) (hN : N = (p ++ [u] ++ y ++ q).length) (hNb : N ≤ 1000000)
    (H : Own w0 w (slc 65 2 (.slice (some ⟨g, 0, none⟩) N c) N (rows ce (p ++ [u] ++ y ++ q)) :: ps)) :
    Calls Try.prog 54 #[.slice (some ⟨g, 0, none⟩) N c, .int .i64 a, .int .i64 m, .int .i64 b, cf B] w (Ret fun _ w' => ∃ z, Mrg key [u] y z ∧ Own w0 w' (slc 65 2 (.slice (some ⟨g, 0, none⟩) N c) N (rows ce (p ++ z ++ q)) :: ps)) := by
  have hbN : b ≤ N := by rw [hN]; simp only [List.length_append, List.length_singleton]; omega
  have hNc : N ≤ c := by obtain ⟨_, _, e, h1, _⟩ := H.rd.shape; cases e; exact h1
  have hc2 : c ≤ 9223372036854775807 := by obtain ⟨_, _, e, _, h1⟩ := H.rd.shape; cases e; exact h1
  have hgu : (p ++ [u] ++ y ++ q)[a]? = some u := by
    have : p ++ [u] ++ y ++ q = p ++ u :: (y ++ q) := by simp
    rw [this]; exact get_mid _ _ _ ha
  have hgy : ∀ t v, y[t]? = some v → (p ++ [u] ++ y ++ q)[m + t]? = some v := by
    intro t v hv
    have : p ++ [u] ++ y ++ q = (p ++ [u]) ++ (y ++ q) := by simp
    rw [this, List.getElem?_append_right (by simp only [List.length_append, List.length_singleton]; omega), List.getElem?_append_left (by have := (List.getElem?_eq_some_iff.1 hv).1; simp only [List.length_append, List.length_singleton]; omega)]
    simp only [List.length_append, List.length_singleton]
    rw [show m + t - (p.length + 1) = t by omega]
    exact hv
  have HGU := Lib.hid hgu
  have HGY := Lib.hid hgy
  have HP := Lib.hid ha
  have HB := Lib.hid hb
  have HN := Lib.hid hN
  have HC := Lib.hid hcmp
  have HOK := Lib.hid hoky
  have HS := Lib.hid hy
  obtain ⟨L, hL⟩ : ∃ L, Hid (p ++ [u] ++ y ++ q = L) := ⟨_, Lib.hid rfl⟩
  rw [hL.out] at H HGU HGY
  have hmb : m ≤ b := by omega
  have hma : ((m : Int) - (a : Int)) = 1 := by omega
  have ham : a < m := by omega
  have haN : (a : Int) < (N : Int) := by omega
  have HM := Lib.hid hm
  clear ha hb hN hcmp hoky hy hgu hgy hm
  go_enter Try.func54, Try.ntmps54
  go_wp2_with fail
  go_loopw [10, 11] (fun s10 s11 wx => ∃ (i j : Nat), s10 = .int .i64 i ∧ s11 = .int .i64 j ∧ m ≤ i ∧ i ≤ j ∧ j ≤ b ∧ Hid (∀ (t : Nat) (v : Coin), m + t < i → y[t]? = some v → key v < key u) ∧ Hid (∀ (t : Nat) (v : Coin), j ≤ m + t → y[t]? = some v → key u ≤ key v) ∧ Own w0 wx (slc 65 2 (.slice (some ⟨g, 0, none⟩) N c) N (rows ce L) :: ps)) (fun s10 s11 _ => (intOf s11).toNat - (intOf s10).toNat)
  case atStart => exact ⟨m, b, rfl, rfl, by omega, by omega, by omega, Lib.hid (fun t v h => by omega), Lib.hid (fun t v h hv => by have := (List.getElem?_eq_some_iff.1 hv).1; have := HB.out; omega), H⟩
  case round =>
    clear H
    obtain ⟨i, j, rfl, rfl, hmi, hij, hjb, hlo, hhi, H⟩ := hrel
    by_cases hlt : i < j
    · obtain ⟨h, hh⟩ : ∃ h, Hid ((i + j) / 2 = h) := ⟨_, rfl⟩
      have hih : i ≤ h := by rw [← hh.out]; omega
      have hhj : h < j := by rw [← hh.out]; omega
      have hsI : (((i : Int) + (j : Int)) / 2) = (h : Int) := by have := hh.out; omega
      have hsU : IntKind.u64.wrap ((i : Int) + (j : Int)) = (i : Int) + (j : Int) := by simp [IntKind.wrap, IntKind.bits, IntKind.signed]; omega
      obtain ⟨t, ht⟩ : ∃ t, h = m + t := ⟨h - m, by omega⟩
      obtain ⟨v, hv⟩ := get_of_lt (l := y) (k := t) (by have := HB.out; omega)
      have hg := HGY.out t v hv
      rw [← ht] at hg
      have HG := Lib.hid hg
      have hokv : ok v := HOK.out v (List.mem_of_getElem? hv)
      have hcall := fun (wz : World) (h : Own w0 wz (slc 65 2 (.slice (some ⟨g, 0, none⟩) N c) N (rows ce L) :: ps)) => HC.out wz _ h v u hokv hoku
      have hcl := cmpI_lt (key v) (key u)
      obtain ⟨cv, hcv⟩ : ∃ cv, Hid (cmpI (key v) (key u) = cv) := ⟨_, rfl⟩
      simp only [hcv.out] at hcall hcl
      have HCALL := Lib.hid hcall
      have hhN : (h : Int) < (N : Int) := by omega
      have hlo2 : key v < key u → Hid (∀ (t' : Nat) (v' : Coin), m + t' < h + 1 → y[t']? = some v' → key v' < key u) := fun hk => Lib.hid fun t' v' ht' hv' => by
        by_cases e : t' = t
        · subst e; rw [hv] at hv'; cases hv'; exact hk
        · have h1 := List.pairwise_iff_getElem.1 HS.out t' t (List.getElem?_eq_some_iff.1 hv').1 (List.getElem?_eq_some_iff.1 hv).1 (by omega)
          rw [(List.getElem?_eq_some_iff.1 hv').2, (List.getElem?_eq_some_iff.1 hv).2] at h1
          omega
      have hhi2 : ¬ key v < key u → Hid (∀ (t' : Nat) (v' : Coin), h ≤ m + t' → y[t']? = some v' → key u ≤ key v') := fun hk => Lib.hid fun t' v' ht' hv' => by
        by_cases e : t' = t
        · subst e; rw [hv] at hv'; cases hv'; omega
        · have h1 := List.pairwise_iff_getElem.1 HS.out t t' (List.getElem?_eq_some_iff.1 hv).1 (List.getElem?_eq_some_iff.1 hv').1 (by omega)
          rw [(List.getElem?_eq_some_iff.1 hv').2, (List.getElem?_eq_some_iff.1 hv).2] at h1
          omega
      have HLO2 := Lib.hid hlo2
      have HHI2 := Lib.hid hhi2
      clear hlo2 hhi2 hg hv ht hcall
      go_upto_region 5 with (fail)
      refine wp_region_calm (fun w1 => Own w0 w1 (slc 65 2 (.slice (some ⟨g, 0, none⟩) N c) N (rows ce L) :: ps)) 10 (by kernel_rfl) (by kernel_rfl) H.drew ?_
      simp only [List.take_succ_cons, List.take_zero, List.drop_succ_cons, List.drop_zero]
      repeat
        first
        | (refine calm_value (v := ?_) (by decide) rfl (fun σ w1 hS => ?_) ?_
           rotate_left
           · obtain ⟨c1, c1'⟩ := el hS.rd HG.out; obtain ⟨c2, c2'⟩ := el hS.rd HGU.out
             first | (go_simp; rfl) | rfl
           simp only [Act.put, List.setIfInBounds_toArray, List.set_cons_zero, List.set_cons_succ])
        | (refine calm_skip (by decide) rfl ?_
           simp only [Act.put, List.setIfInBounds_toArray, List.set_cons_zero, List.set_cons_succ])
      refine calm_call (v := .int .i64 cv) (by decide) rfl (fun w1 => (by go_simp; first | exact ⟨rfl, rfl⟩ | rfl)) (fun σ w1 hS => ?_) ?_
      · refine (HCALL.out w1 hS).mono ?_
        rintro e w2 ⟨_, rfl, rfl, h2⟩
        exact ⟨rfl, hS.join h2⟩
      simp only [Act.put, List.setIfInBounds_toArray, List.set_cons_zero, List.set_cons_succ]
      refine calm_nil ?_
      intro wd HD
      clear H
      by_cases hk : key v < key u
      · have hk2 : decide (cv < 0) = true := by rw [hcl]; simp [hk]
        have hn := HLO2.out hk
        clear hk hcl HHI2
        go_wp2
        go_roundw
        case rel => exact ⟨h + 1, j, by go_num, rfl, by omega, by omega, by omega, hn, hhi, HD⟩
        case measure => simp [intOf]; omega
      · have hk2 : decide (cv < 0) = false := by rw [hcl]; simp [hk]
        have hn := HHI2.out hk
        clear hk hcl HLO2
        go_wp2
        go_roundw
        case rel => exact ⟨i, h, rfl, by go_num, by omega, by omega, by omega, hlo, hn, HD⟩
        case measure => simp [intOf]; omega
    · have hij2 : i = j := by omega
      subst hij2
      obtain ⟨y1, y2, hys, hy1⟩ := split_at y (i - m) (by have := HB.out; omega)
      have hlt1 : ∀ v ∈ y1, key v < key u := fun v hv => by
        obtain ⟨t, ht, rfl⟩ := List.getElem_of_mem hv
        refine hlo.out t _ (by omega) ?_
        rw [hys, List.getElem?_append_left ht, List.getElem?_eq_getElem ht]
      have hge2 : ∀ v ∈ y2, key u ≤ key v := fun v hv => by
        obtain ⟨t, ht, rfl⟩ := List.getElem_of_mem hv
        refine hhi.out (y1.length + t) _ (by omega) ?_
        rw [hys, List.getElem?_append_right (by omega), Nat.add_sub_cancel_left, List.getElem?_eq_getElem ht]
      have hmrg : Mrg key [u] y (y1 ++ u :: y2) := by
        have := Mrg.one_left (key := key) (x := u) (y1 := y1) (y2 := y2) (by rw [← hys]; exact HS.out) hlt1 hge2
        rwa [← hys] at this
      have HMRG := Lib.hid hmrg
      have HY1 := Lib.hid hy1
      have hLe : Hid (L = p ++ u :: (y1 ++ y2 ++ q)) := Lib.hid (by rw [← hL.out, hys]; simp)
      have hiw : IntKind.i64.wrap ((i : Int) - 1) = (i : Int) - 1 := IntWalk.i64_in _ ⟨by omega, by omega⟩
      have hHL : Hid (L.length = N) := Lib.hid (by rw [← hL.out, ← HN.out])
      clear hlo hhi hys hlt1 hge2 hmrg hy1 hlt
      rw [hLe.out] at H
      go_wp2_with fail
      go_loopw [13] (fun s13 wx => ∃ (k : Nat) (Y1 Y2 : List Coin), s13 = .int .i64 k ∧ a ≤ k ∧ k + 1 ≤ i ∧ Hid (y1 = Y1 ++ Y2) ∧ Hid (a + Y1.length = k) ∧ Own w0 wx (slc 65 2 (.slice (some ⟨g, 0, none⟩) N c) N (rows ce (p ++ Y1 ++ u :: (Y2 ++ (y2 ++ q)))) :: ps)) (fun s13 _ => i - (intOf s13).toNat)
      case atStart => exact ⟨a, [], y1, rfl, by omega, by omega, Lib.hid rfl, Lib.hid rfl, by simpa using H⟩
      case round =>
        clear H
        obtain ⟨k, Y1, Y2, rfl, hk1, hk2, hy1, hYl, H⟩ := hrel
        by_cases hki : k + 1 < i
        · obtain ⟨v, Y3, hY2⟩ : ∃ v Y3, Y2 = v :: Y3 := by
            cases Y2 with
            | nil => exfalso; have h1 := HY1.out; have h2 := hYl.out; rw [hy1.out] at h1; simp at h1; have := HM.out; omega
            | cons v Y3 => exact ⟨v, Y3, rfl⟩
          subst hY2
          have el1 : p ++ Y1 ++ u :: (v :: Y3 ++ (y2 ++ q)) = (p ++ Y1) ++ u :: ([] ++ v :: (Y3 ++ (y2 ++ q))) := by simp
          rw [el1] at H
          have hkl : k = (p ++ Y1).length := by rw [List.length_append, ← HP.out]; exact hYl.out.symm
          have hLn : ((p ++ Y1) ++ u :: ([] ++ v :: (Y3 ++ (y2 ++ q)))).length = N := by
            rw [← hHL.out, hLe.out, hy1.out]
            simp only [List.length_append, List.length_cons, List.length_nil]
            omega
          have hg1 : ((p ++ Y1) ++ u :: ([] ++ v :: (Y3 ++ (y2 ++ q))))[k]? = some u := get_mid _ _ _ hkl
          have hg2 : ((p ++ Y1) ++ u :: ([] ++ v :: (Y3 ++ (y2 ++ q))))[k + 1]? = some v := by
            have : (p ++ Y1) ++ u :: ([] ++ v :: (Y3 ++ (y2 ++ q))) = ((p ++ Y1) ++ [u]) ++ v :: (Y3 ++ (y2 ++ q)) := by simp
            rw [this]
            exact get_mid _ _ _ (by rw [List.length_append, List.length_singleton, ← hkl])
          have hsw := set_swap (p ++ Y1) [] (Y3 ++ (y2 ++ q)) u v (i := k) (j := k + 1) hkl (by simp only [List.length_nil]; omega)
          obtain ⟨M, hM⟩ : ∃ M, Hid ((p ++ Y1) ++ u :: ([] ++ v :: (Y3 ++ (y2 ++ q))) = M) := ⟨_, Lib.hid rfl⟩
          rw [hM.out] at H hg1 hg2 hsw hLn
          have HG1 := Lib.hid hg1
          have HG2 := Lib.hid hg2
          have e1 : (rows ce M).take (k * 2) ++ ce v ++ (rows ce M).drop (k * 2 + 2) = rows ce (M.set k v) := set_rows (by rw [hLn]; omega) v
          have e2 : (rows ce (M.set k v)).take ((k + 1) * 2) ++ ce u ++ (rows ce (M.set k v)).drop ((k + 1) * 2 + 2) = rows ce (p ++ (Y1 ++ [v]) ++ u :: (Y3 ++ (y2 ++ q))) := by
            rw [set_rows (by rw [List.length_set, hLn]; omega) u, hsw]
            simp
          have E1 := Lib.hid e1
          have E2 := Lib.hid e2
          have hkiI : (k : Int) < (i : Int) - 1 := by omega
          have hkN : (k : Int) < (N : Int) := by omega
          have hkN1 : (k : Int) + 1 < (N : Int) := by omega
          have hkT : ((k : Int) + 1).toNat = k + 1 := by omega
          have hkw : IntKind.i64.wrap ((k : Int) + 1) = (k : Int) + 1 := IntWalk.i64_in _ ⟨by omega, by omega⟩
          have hY' : Hid (y1 = (Y1 ++ [v]) ++ Y3) := Lib.hid (by rw [hy1.out]; simp)
          have hYl' : Hid (a + (Y1 ++ [v]).length = k + 1) := Lib.hid (by rw [List.length_append, List.length_singleton]; have := hYl.out; omega)
          clear hg1 hg2 hsw hLn e1 e2 el1 hkl hM
          go_upto_region 11 with (fail)
          refine wp_region_pres (fun _ w1 => Own w0 w1 (slc 65 2 (.slice (some ⟨g, 0, none⟩) N c) N (rows ce M) :: ps)) 14 [] [2, 3, 4] (by kernel_rfl) (by kernel_rfl) (by kernel_rfl) (by kernel_rfl) (fun _ _ d _ _ h => by cases d <;> exact h) ⟨_, _, rfl, fun w => (by first | rfl | (go_simp; rfl)), _, _, rfl, fun w => (by first | rfl | (go_simp; rfl)), _, _, rfl, fun w => (by first | rfl | (go_simp; rfl)), rfl⟩ H.drew ?_
          simp only [List.take_succ_cons, List.take_zero, List.drop_succ_cons, List.drop_zero]
          repeat
            first
            | (refine calm_value (v := ?_) (by decide) rfl (fun σ w1 hS => ?_) ?_
               rotate_left
               · obtain ⟨c1, c1'⟩ := el hS.rd HG1.out; obtain ⟨c2, c2'⟩ := el hS.rd HG2.out
                 first | (go_simp; rfl) | rfl
               simp only [Act.put, List.setIfInBounds_toArray, List.set_cons_zero, List.set_cons_succ])
            | (refine calm_skip (by decide) rfl ?_
               simp only [Act.put, List.setIfInBounds_toArray, List.set_cons_zero, List.set_cons_succ])
          refine calm_nil ?_
          intro σ2 wd2 _ H2
          simp only [putNew, List.foldl_nil]
          clear H
          go_wp2_with (first
            | (refine wpList_store_elem rfl _ _ rfl (i := k) (by first | rfl | (rw [Nat.mul_one]; rfl)) H2 (ce v) rfl (by kernel_rfl) rfl (by omega) (e_one v) ?_; clear H2; intro w5 H; rw [E1.out] at H)
            | (refine wpList_store_elem rfl _ _ rfl (i := k + 1) (by first | rfl | (rw [Nat.mul_one]; rfl)) H (ce u) rfl (by kernel_rfl) rfl (by omega) (e_one u) ?_; clear H; intro w6 H; rw [E2.out] at H))
          go_roundw
          case rel => exact ⟨k + 1, Y1 ++ [v], Y3, by go_num, by omega, by omega, hY', hYl', H⟩
          case measure => simp [intOf]; omega
        · have hY20 : Y2 = [] := by
            have h1 := HY1.out; have h2 := hYl.out
            rw [hy1.out, List.length_append] at h1
            have := HM.out
            exact List.eq_nil_of_length_eq_zero (by omega)
          have hnk : ¬ ((k : Int) < (i : Int) - 1) := by omega
          have e1 : Hid (y1 = Y1) := Lib.hid (by rw [hy1.out, hY20, List.append_nil])
          have el2 : p ++ Y1 ++ u :: (Y2 ++ (y2 ++ q)) = p ++ (y1 ++ u :: y2) ++ q := by rw [hY20, e1.out]; simp
          rw [el2] at H
          clear el2 hY20 hki
          go_wp2
          go_end0
          exact ⟨_, rfl, _, HMRG.out, by simpa using H⟩
end
end SC
end Go.Proofs.Ytfeamlbkogigkaa
