/-
  Texts of this claim, one behind the other: The stable sort of slices of coins; The stable sort of slices of coins; The stable sort of slices of coins; The stable sort of slices of coins; The stable sort of slices of coins; huff; huff; huff; huff; huff; huff; huff; flate; A map of the call's own whose elements are ints (0 where there is none); lz; lz; A look-up in a map of ints, in a region that draws its order; lz; lz.
-/
import Derived.Test.YtljejkdkjnbmhaaUc5
import Derived.Lib.BufferMore
import Derived.Deep.OwnRows
import Derived.Maps.Own
import Derived.Maps.OwnOps
import Derived.Maps.Views
import Derived.ProofKit
import Derived.DeepKeys4
import Derived.Test.YtljejkdkjnbmhaaRows
import Derived.Deep.DeepCutAuto
import Derived.Deep.CutBlock
import Derived.Deep.LoopGhost
import Derived.WalkLawsBesides
import Derived.WalkSpells
import Derived.BigQuiet
import Derived.Deep.QuietTactic
set_option linter.unusedVariables false
/- The stable sort of slices of coins: the walk of symMerge, where one part is of one. (Written by tools/srt.py.) -/
namespace Go.Proofs.Ytljejkdkjnbmhaa
open Go.RowKit
namespace SC
section
variable {w0 w : World} {ps : List Piece} {ok : Coin → Prop} {key : Coin → Int} {B : Nat}
set_option maxRecDepth 100000 in
set_option maxHeartbeats 6400000 in
theorem symL_any {g c N : Nat} {p y q : List Coin} {u : Coin} {a m b : Nat} (hcmp : Cmps w0 ps B ok key) (hoku : ok u) (hoky : ∀ v ∈ y, ok v) (hy : Srt key y) (ha : a = p.length) (hm : m = a + 1) (hb : b = m + y.length) (hN : N = (p ++ [u] ++ y ++ q).length) (hNb : N ≤ 1000000)
    (H : Own w0 w (slc 124 2 (.slice (some ⟨g, 0, none⟩) N c) N (rows ce (p ++ [u] ++ y ++ q)) :: ps)) :
    Calls Try.prog 90 #[.slice (some ⟨g, 0, none⟩) N c, .int .i64 a, .int .i64 m, .int .i64 b, cf B] w (Ret fun _ w' => ∃ z, Mrg key [u] y z ∧ Own w0 w' (slc 124 2 (.slice (some ⟨g, 0, none⟩) N c) N (rows ce (p ++ z ++ q)) :: ps)) := by
  have hbN : b ≤ N := by rw [hN]; simp only [List.length_append, List.length_singleton]; omega
  have hNc : N ≤ c := by obtain ⟨_, _, e, h1, _⟩ := H.rd.shape; cases e; exact h1
  have hc2 : c ≤ 9223372036854775807 := by obtain ⟨_, _, e, _, h1⟩ := H.rd.shape; cases e; exact h1
  have hgu : (p ++ [u] ++ y ++ q)[a]? = some u := by
    have : p ++ [u] ++ y ++ q = p ++ u :: (y ++ q) := by simp
    rw [this]; exact get_mid _ _ _ ha
  have hgy : ∀ t v, y[t]? = some v → (p ++ [u] ++ y ++ q)[m + t]? = some v := by
    intro t v hv
    have : p ++ [u] ++ y ++ q = (p ++ [u]) ++ (y ++ q) := by simp
    rw [this, List.getElem?_append_right (by simp only [List.length_append, List.length_singleton]; omega), List.getElem?_append_left (by have := (List.getElem?_eq_some_iff.1 hv).1; simp only [List.length_append, List.length_singleton]; omega)]
    simp only [List.length_append, List.length_singleton]
    rw [show m + t - (p.length + 1) = t by omega]
    exact hv
  have HGU := Lib.hid hgu
  have HGY := Lib.hid hgy
  have HP := Lib.hid ha
  have HB := Lib.hid hb
  have HN := Lib.hid hN
  have HC := Lib.hid hcmp
  have HOK := Lib.hid hoky
  have HS := Lib.hid hy
  obtain ⟨L, hL⟩ : ∃ L, Hid (p ++ [u] ++ y ++ q = L) := ⟨_, Lib.hid rfl⟩
  rw [hL.out] at H HGU HGY
  have hmb : m ≤ b := by omega
  have hma : ((m : Int) - (a : Int)) = 1 := by omega
  have ham : a < m := by omega
  have haN : (a : Int) < (N : Int) := by omega
  have HM := Lib.hid hm
  clear ha hb hN hcmp hoky hy hgu hgy hm
  go_enter Try.func90, Try.ntmps90
  go_wp2_with fail
  go_loopw [10, 11] (fun s10 s11 wx => ∃ (i j : Nat), s10 = .int .i64 i ∧ s11 = .int .i64 j ∧ m ≤ i ∧ i ≤ j ∧ j ≤ b ∧ Hid (∀ (t : Nat) (v : Coin), m + t < i → y[t]? = some v → key v < key u) ∧ Hid (∀ (t : Nat) (v : Coin), j ≤ m + t → y[t]? = some v → key u ≤ key v) ∧ Own w0 wx (slc 124 2 (.slice (some ⟨g, 0, none⟩) N c) N (rows ce L) :: ps)) (fun s10 s11 _ => (intOf s11).toNat - (intOf s10).toNat)
  case atStart => exact ⟨m, b, rfl, rfl, by omega, by omega, by omega, Lib.hid (fun t v h => by omega), Lib.hid (fun t v h hv => by have := (List.getElem?_eq_some_iff.1 hv).1; have := HB.out; omega), H⟩
  case round =>
    clear H
    obtain ⟨i, j, rfl, rfl, hmi, hij, hjb, hlo, hhi, H⟩ := hrel
    by_cases hlt : i < j
    · obtain ⟨h, hh⟩ : ∃ h, Hid ((i + j) / 2 = h) := ⟨_, rfl⟩
      have hih : i ≤ h := by rw [← hh.out]; omega
      have hhj : h < j := by rw [← hh.out]; omega
      have hsI : (((i : Int) + (j : Int)) / 2) = (h : Int) := by have := hh.out; omega
      have hsU : IntKind.u64.wrap ((i : Int) + (j : Int)) = (i : Int) + (j : Int) := by simp [IntKind.wrap, IntKind.bits, IntKind.signed]; omega
      obtain ⟨t, ht⟩ : ∃ t, h = m + t := ⟨h - m, by omega⟩
      obtain ⟨v, hv⟩ := get_of_lt (l := y) (k := t) (by have := HB.out; omega)
      have hg := HGY.out t v hv
      rw [← ht] at hg
      have HG := Lib.hid hg
      have hokv : ok v := HOK.out v (List.mem_of_getElem? hv)
      have hcall := fun (wz : World) (h : Own w0 wz (slc 124 2 (.slice (some ⟨g, 0, none⟩) N c) N (rows ce L) :: ps)) => HC.out wz _ h v u hokv hoku
      have hcl := cmpI_lt (key v) (key u)
      obtain ⟨cv, hcv⟩ : ∃ cv, Hid (cmpI (key v) (key u) = cv) := ⟨_, rfl⟩
      simp only [hcv.out] at hcall hcl
      have HCALL := Lib.hid hcall
      have hhN : (h : Int) < (N : Int) := by omega
      have hlo2 : key v < key u → Hid (∀ (t' : Nat) (v' : Coin), m + t' < h + 1 → y[t']? = some v' → key v' < key u) := fun hk => Lib.hid fun t' v' ht' hv' => by
        by_cases e : t' = t
        · subst e; rw [hv] at hv'; cases hv'; exact hk
        · have h1 := List.pairwise_iff_getElem.1 HS.out t' t (List.getElem?_eq_some_iff.1 hv').1 (List.getElem?_eq_some_iff.1 hv).1 (by omega)
          rw [(List.getElem?_eq_some_iff.1 hv').2, (List.getElem?_eq_some_iff.1 hv).2] at h1
          omega
      have hhi2 : ¬ key v < key u → Hid (∀ (t' : Nat) (v' : Coin), h ≤ m + t' → y[t']? = some v' → key u ≤ key v') := fun hk => Lib.hid fun t' v' ht' hv' => by
        by_cases e : t' = t
        · subst e; rw [hv] at hv'; cases hv'; omega
        · have h1 := List.pairwise_iff_getElem.1 HS.out t t' (List.getElem?_eq_some_iff.1 hv).1 (List.getElem?_eq_some_iff.1 hv').1 (by omega)
          rw [(List.getElem?_eq_some_iff.1 hv').2, (List.getElem?_eq_some_iff.1 hv).2] at h1
          omega
      have HLO2 := Lib.hid hlo2
      have HHI2 := Lib.hid hhi2
      clear hlo2 hhi2 hg hv ht hcall
      go_upto_region 5 with (fail)
      refine wp_region_calm (fun w1 => Own w0 w1 (slc 124 2 (.slice (some ⟨g, 0, none⟩) N c) N (rows ce L) :: ps)) 10 (by kernel_rfl) (by kernel_rfl) H.drew ?_
      simp only [List.take_succ_cons, List.take_zero, List.drop_succ_cons, List.drop_zero]
      repeat
        first
        | (refine calm_value (v := ?_) (by decide) rfl (fun σ w1 hS => ?_) ?_
           rotate_left
           · obtain ⟨c1, c1'⟩ := el hS.rd HG.out; obtain ⟨c2, c2'⟩ := el hS.rd HGU.out
             first | (go_simp; rfl) | rfl
           simp only [Act.put, List.setIfInBounds_toArray, List.set_cons_zero, List.set_cons_succ])
        | (refine calm_skip (by decide) rfl ?_
           simp only [Act.put, List.setIfInBounds_toArray, List.set_cons_zero, List.set_cons_succ])
      refine calm_call (v := .int .i64 cv) (by decide) rfl (fun w1 => (by go_simp; first | exact ⟨rfl, rfl⟩ | rfl)) (fun σ w1 hS => ?_) ?_
      · refine (HCALL.out w1 hS).mono ?_
        rintro e w2 ⟨_, rfl, rfl, h2⟩
        exact ⟨rfl, hS.join h2⟩
      simp only [Act.put, List.setIfInBounds_toArray, List.set_cons_zero, List.set_cons_succ]
      refine calm_nil ?_
      intro wd HD
      clear H
      by_cases hk : key v < key u
      · have hk2 : decide (cv < 0) = true := by rw [hcl]; simp [hk]
        have hn := HLO2.out hk
        clear hk hcl HHI2
        go_wp2
        go_roundw
        case rel => exact ⟨h + 1, j, by go_num, rfl, by omega, by omega, by omega, hn, hhi, HD⟩
        case measure => simp [intOf]; omega
      · have hk2 : decide (cv < 0) = false := by rw [hcl]; simp [hk]
        have hn := HHI2.out hk
        clear hk hcl HLO2
        go_wp2
        go_roundw
        case rel => exact ⟨i, h, rfl, by go_num, by omega, by omega, by omega, hlo, hn, HD⟩
        case measure => simp [intOf]; omega
    · have hij2 : i = j := by omega
      subst hij2
      obtain ⟨y1, y2, hys, hy1⟩ := split_at y (i - m) (by have := HB.out; omega)
      have hlt1 : ∀ v ∈ y1, key v < key u := fun v hv => by
        obtain ⟨t, ht, rfl⟩ := List.getElem_of_mem hv
        refine hlo.out t _ (by omega) ?_
        rw [hys, List.getElem?_append_left ht, List.getElem?_eq_getElem ht]
      have hge2 : ∀ v ∈ y2, key u ≤ key v := fun v hv => by
        obtain ⟨t, ht, rfl⟩ := List.getElem_of_mem hv
        refine hhi.out (y1.length + t) _ (by omega) ?_
        rw [hys, List.getElem?_append_right (by omega), Nat.add_sub_cancel_left, List.getElem?_eq_getElem ht]
      have hmrg : Mrg key [u] y (y1 ++ u :: y2) := by
        have := Mrg.one_left (key := key) (x := u) (y1 := y1) (y2 := y2) (by rw [← hys]; exact HS.out) hlt1 hge2
        rwa [← hys] at this
      have HMRG := Lib.hid hmrg
      have HY1 := Lib.hid hy1
      have hLe : Hid (L = p ++ u :: (y1 ++ y2 ++ q)) := Lib.hid (by rw [← hL.out, hys]; simp)
      have hiw : IntKind.i64.wrap ((i : Int) - 1) = (i : Int) - 1 := IntWalk.i64_in _ ⟨by omega, by omega⟩
      have hHL : Hid (L.length = N) := Lib.hid (by rw [← hL.out, ← HN.out])
      clear hlo hhi hys hlt1 hge2 hmrg hy1 hlt
      rw [hLe.out] at H
      go_wp2_with fail
      go_loopw [13] (fun s13 wx => ∃ (k : Nat) (Y1 Y2 : List Coin), s13 = .int .i64 k ∧ a ≤ k ∧ k + 1 ≤ i ∧ Hid (y1 = Y1 ++ Y2) ∧ Hid (a + Y1.length = k) ∧ Own w0 wx (slc 124 2 (.slice (some ⟨g, 0, none⟩) N c) N (rows ce (p ++ Y1 ++ u :: (Y2 ++ (y2 ++ q)))) :: ps)) (fun s13 _ => i - (intOf s13).toNat)
      case atStart => exact ⟨a, [], y1, rfl, by omega, by omega, Lib.hid rfl, Lib.hid rfl, by simpa using H⟩
      case round =>
        clear H
        obtain ⟨k, Y1, Y2, rfl, hk1, hk2, hy1, hYl, H⟩ := hrel
        by_cases hki : k + 1 < i
        · obtain ⟨v, Y3, hY2⟩ : ∃ v Y3, Y2 = v :: Y3 := by
            cases Y2 with
            | nil => exfalso; have h1 := HY1.out; have h2 := hYl.out; rw [hy1.out] at h1; simp at h1; have := HM.out; omega
            | cons v Y3 => exact ⟨v, Y3, rfl⟩
          subst hY2
          have el1 : p ++ Y1 ++ u :: (v :: Y3 ++ (y2 ++ q)) = (p ++ Y1) ++ u :: ([] ++ v :: (Y3 ++ (y2 ++ q))) := by simp
          rw [el1] at H
          have hkl : k = (p ++ Y1).length := by rw [List.length_append, ← HP.out]; exact hYl.out.symm
          have hLn : ((p ++ Y1) ++ u :: ([] ++ v :: (Y3 ++ (y2 ++ q)))).length = N := by
            rw [← hHL.out, hLe.out, hy1.out]
            simp only [List.length_append, List.length_cons, List.length_nil]
            omega
          have hg1 : ((p ++ Y1) ++ u :: ([] ++ v :: (Y3 ++ (y2 ++ q))))[k]? = some u := get_mid _ _ _ hkl
          have hg2 : ((p ++ Y1) ++ u :: ([] ++ v :: (Y3 ++ (y2 ++ q))))[k + 1]? = some v := by
            have : (p ++ Y1) ++ u :: ([] ++ v :: (Y3 ++ (y2 ++ q))) = ((p ++ Y1) ++ [u]) ++ v :: (Y3 ++ (y2 ++ q)) := by simp
            rw [this]
            exact get_mid _ _ _ (by rw [List.length_append, List.length_singleton, ← hkl])
          have hsw := set_swap (p ++ Y1) [] (Y3 ++ (y2 ++ q)) u v (i := k) (j := k + 1) hkl (by simp only [List.length_nil]; omega)
          obtain ⟨M, hM⟩ : ∃ M, Hid ((p ++ Y1) ++ u :: ([] ++ v :: (Y3 ++ (y2 ++ q))) = M) := ⟨_, Lib.hid rfl⟩
          rw [hM.out] at H hg1 hg2 hsw hLn
          have HG1 := Lib.hid hg1
          have HG2 := Lib.hid hg2
          have e1 : (rows ce M).take (k * 2) ++ ce v ++ (rows ce M).drop (k * 2 + 2) = rows ce (M.set k v) := set_rows (by rw [hLn]; omega) v
          have e2 : (rows ce (M.set k v)).take ((k + 1) * 2) ++ ce u ++ (rows ce (M.set k v)).drop ((k + 1) * 2 + 2) = rows ce (p ++ (Y1 ++ [v]) ++ u :: (Y3 ++ (y2 ++ q))) := by
            rw [set_rows (by rw [List.length_set, hLn]; omega) u, hsw]
            simp
          have E1 := Lib.hid e1
          have E2 := Lib.hid e2
          have hkiI : (k : Int) < (i : Int) - 1 := by omega
          have hkN : (k : Int) < (N : Int) := by omega
          have hkN1 : (k : Int) + 1 < (N : Int) := by omega
          have hkT : ((k : Int) + 1).toNat = k + 1 := by omega
          have hkw : IntKind.i64.wrap ((k : Int) + 1) = (k : Int) + 1 := IntWalk.i64_in _ ⟨by omega, by omega⟩
          have hY' : Hid (y1 = (Y1 ++ [v]) ++ Y3) := Lib.hid (by rw [hy1.out]; simp)
          have hYl' : Hid (a + (Y1 ++ [v]).length = k + 1) := Lib.hid (by rw [List.length_append, List.length_singleton]; have := hYl.out; omega)
          clear hg1 hg2 hsw hLn e1 e2 el1 hkl hM
          go_upto_region 11 with (fail)
          refine wp_region_pres (fun _ w1 => Own w0 w1 (slc 124 2 (.slice (some ⟨g, 0, none⟩) N c) N (rows ce M) :: ps)) 14 [] [2, 3, 4] (by kernel_rfl) (by kernel_rfl) (by kernel_rfl) (by kernel_rfl) (fun _ _ d _ _ h => by cases d <;> exact h) ⟨_, _, rfl, fun w => (by first | rfl | (go_simp; rfl)), _, _, rfl, fun w => (by first | rfl | (go_simp; rfl)), _, _, rfl, fun w => (by first | rfl | (go_simp; rfl)), rfl⟩ H.drew ?_
          simp only [List.take_succ_cons, List.take_zero, List.drop_succ_cons, List.drop_zero]
          repeat
            first
            | (refine calm_value (v := ?_) (by decide) rfl (fun σ w1 hS => ?_) ?_
               rotate_left
               · obtain ⟨c1, c1'⟩ := el hS.rd HG1.out; obtain ⟨c2, c2'⟩ := el hS.rd HG2.out
                 first | (go_simp; rfl) | rfl
               simp only [Act.put, List.setIfInBounds_toArray, List.set_cons_zero, List.set_cons_succ])
            | (refine calm_skip (by decide) rfl ?_
               simp only [Act.put, List.setIfInBounds_toArray, List.set_cons_zero, List.set_cons_succ])
          refine calm_nil ?_
          intro σ2 wd2 _ H2
          simp only [putNew, List.foldl_nil]
          clear H
          go_wp2_with (first
            | (refine wpList_store_elem rfl _ _ rfl (i := k) (by first | rfl | (rw [Nat.mul_one]; rfl)) H2 (ce v) rfl (by kernel_rfl) rfl (by omega) (e_one v) ?_; clear H2; intro w5 H; rw [E1.out] at H)
            | (refine wpList_store_elem rfl _ _ rfl (i := k + 1) (by first | rfl | (rw [Nat.mul_one]; rfl)) H (ce u) rfl (by kernel_rfl) rfl (by omega) (e_one u) ?_; clear H; intro w6 H; rw [E2.out] at H))
          go_roundw
          case rel => exact ⟨k + 1, Y1 ++ [v], Y3, by go_num, by omega, by omega, hY', hYl', H⟩
          case measure => simp [intOf]; omega
        · have hY20 : Y2 = [] := by
            have h1 := HY1.out; have h2 := hYl.out
            rw [hy1.out, List.length_append] at h1
            have := HM.out
            exact List.eq_nil_of_length_eq_zero (by omega)
          have hnk : ¬ ((k : Int) < (i : Int) - 1) := by omega
          have e1 : Hid (y1 = Y1) := Lib.hid (by rw [hy1.out, hY20, List.append_nil])
          have el2 : p ++ Y1 ++ u :: (Y2 ++ (y2 ++ q)) = p ++ (y1 ++ u :: y2) ++ q := by rw [hY20, e1.out]; simp
          rw [el2] at H
          clear el2 hY20 hki
          go_wp2
          go_end0
          exact ⟨_, rfl, _, HMRG.out, by simpa using H⟩
end
end SC
end Go.Proofs.Ytljejkdkjnbmhaa
/- The stable sort of slices of coins: the walk of symMerge, where the second part is of one. (Written by tools/srt.py.) -/
namespace Go.Proofs.Ytljejkdkjnbmhaa
open Go.RowKit
namespace SC
section
variable {w0 w : World} {ps : List Piece} {ok : Coin → Prop} {key : Coin → Int} {B : Nat}
set_option maxRecDepth 100000 in
set_option maxHeartbeats 6400000 in
theorem symR_any {g c N : Nat} {p x q : List Coin} {u : Coin} {a m b : Nat} (hcmp : Cmps w0 ps B ok key) (hoku : ok u) (hokx : ∀ v ∈ x, ok v) (hx : Srt key x) (hx2 : 2 ≤ x.length) (ha : a = p.length) (hm : m = a + x.length) (hb : b = m + 1) (hN : N = (p ++ x ++ [u] ++ q).length) (hNb : N ≤ 1000000)
    (H : Own w0 w (slc 124 2 (.slice (some ⟨g, 0, none⟩) N c) N (rows ce (p ++ x ++ [u] ++ q)) :: ps)) :
    Calls Try.prog 90 #[.slice (some ⟨g, 0, none⟩) N c, .int .i64 a, .int .i64 m, .int .i64 b, cf B] w (Ret fun _ w' => ∃ z, Mrg key x [u] z ∧ Own w0 w' (slc 124 2 (.slice (some ⟨g, 0, none⟩) N c) N (rows ce (p ++ z ++ q)) :: ps)) := by
  have hbN : b ≤ N := by rw [hN]; simp only [List.length_append, List.length_singleton]; omega
  have hNc : N ≤ c := by obtain ⟨_, _, e, h1, _⟩ := H.rd.shape; cases e; exact h1
  have hc2 : c ≤ 9223372036854775807 := by obtain ⟨_, _, e, _, h1⟩ := H.rd.shape; cases e; exact h1
  have hgu : (p ++ x ++ [u] ++ q)[m]? = some u := by
    have : p ++ x ++ [u] ++ q = (p ++ x) ++ u :: q := by simp
    rw [this]; exact get_mid _ _ _ (by rw [List.length_append]; omega)
  have hgx : ∀ (t : Nat) v, x[t]? = some v → (p ++ x ++ [u] ++ q)[a + t]? = some v := by
    intro t v hv
    have : p ++ x ++ [u] ++ q = p ++ (x ++ (u :: q)) := by simp
    rw [this, List.getElem?_append_right (by omega), List.getElem?_append_left (by have := (List.getElem?_eq_some_iff.1 hv).1; omega)]
    rw [show a + t - p.length = t by omega]
    exact hv
  have HGU := Lib.hid hgu
  have HGX := Lib.hid hgx
  have HP := Lib.hid ha
  have HM := Lib.hid hm
  have HN := Lib.hid hN
  have HC := Lib.hid hcmp
  have HOK := Lib.hid hokx
  have HS := Lib.hid hx
  obtain ⟨L, hL⟩ : ∃ L, Hid (p ++ x ++ [u] ++ q = L) := ⟨_, Lib.hid rfl⟩
  rw [hL.out] at H HGU HGX
  have hmN : m < N := by omega
  have ham : a + 2 ≤ m := by omega
  have hma : (((m : Int) - (a : Int)) == 1) = false := by simp; omega
  have hbm : ((b : Int) - (m : Int)) = 1 := by omega
  have hbm2 : m ≤ b := by omega
  clear ha hb hN hcmp hokx hx hgu hgx hm hx2
  go_enter Try.func90, Try.ntmps90
  go_wp2_with fail
  go_loopw [14, 15] (fun s10 s11 wx => ∃ (i j : Nat), s10 = .int .i64 i ∧ s11 = .int .i64 j ∧ a ≤ i ∧ i ≤ j ∧ j ≤ m ∧ Hid (∀ (t : Nat) (v : Coin), a + t < i → x[t]? = some v → key v ≤ key u) ∧ Hid (∀ (t : Nat) (v : Coin), j ≤ a + t → x[t]? = some v → key u < key v) ∧ Own w0 wx (slc 124 2 (.slice (some ⟨g, 0, none⟩) N c) N (rows ce L) :: ps)) (fun s10 s11 _ => (intOf s11).toNat - (intOf s10).toNat)
  case atStart => exact ⟨a, m, rfl, rfl, by omega, by omega, by omega, Lib.hid (fun t v h => by omega), Lib.hid (fun t v h hv => by have := (List.getElem?_eq_some_iff.1 hv).1; have := HM.out; omega), H⟩
  case round =>
    clear H
    obtain ⟨i, j, rfl, rfl, hmi, hij, hjb, hlo, hhi, H⟩ := hrel
    by_cases hlt : i < j
    · obtain ⟨h, hh⟩ : ∃ h, Hid ((i + j) / 2 = h) := ⟨_, rfl⟩
      have hih : i ≤ h := by rw [← hh.out]; omega
      have hhj : h < j := by rw [← hh.out]; omega
      have hsI : (((i : Int) + (j : Int)) / 2) = (h : Int) := by have := hh.out; omega
      have hsU : IntKind.u64.wrap ((i : Int) + (j : Int)) = (i : Int) + (j : Int) := by simp [IntKind.wrap, IntKind.bits, IntKind.signed]; omega
      obtain ⟨t, ht⟩ : ∃ t, h = a + t := ⟨h - a, by omega⟩
      obtain ⟨v, hv⟩ := get_of_lt (l := x) (k := t) (by have := HM.out; omega)
      have hg := HGX.out t v hv
      rw [← ht] at hg
      have HG := Lib.hid hg
      have hokv : ok v := HOK.out v (List.mem_of_getElem? hv)
      have hcall := fun (wz : World) (h : Own w0 wz (slc 124 2 (.slice (some ⟨g, 0, none⟩) N c) N (rows ce L) :: ps)) => HC.out wz _ h u v hoku hokv
      have hcl := cmpI_lt (key u) (key v)
      obtain ⟨cv, hcv⟩ : ∃ cv, Hid (cmpI (key u) (key v) = cv) := ⟨_, rfl⟩
      simp only [hcv.out] at hcall hcl
      have HCALL := Lib.hid hcall
      have hhN : (h : Int) < (N : Int) := by omega
      have hlo2 : ¬ key u < key v → Hid (∀ (t' : Nat) (v' : Coin), a + t' < h + 1 → x[t']? = some v' → key v' ≤ key u) := fun hk => Lib.hid fun t' v' ht' hv' => by
        by_cases e : t' = t
        · subst e; rw [hv] at hv'; cases hv'; omega
        · have h1 := List.pairwise_iff_getElem.1 HS.out t' t (List.getElem?_eq_some_iff.1 hv').1 (List.getElem?_eq_some_iff.1 hv).1 (by omega)
          rw [(List.getElem?_eq_some_iff.1 hv').2, (List.getElem?_eq_some_iff.1 hv).2] at h1
          omega
      have hhi2 : key u < key v → Hid (∀ (t' : Nat) (v' : Coin), h ≤ a + t' → x[t']? = some v' → key u < key v') := fun hk => Lib.hid fun t' v' ht' hv' => by
        by_cases e : t' = t
        · subst e; rw [hv] at hv'; cases hv'; exact hk
        · have h1 := List.pairwise_iff_getElem.1 HS.out t t' (List.getElem?_eq_some_iff.1 hv).1 (List.getElem?_eq_some_iff.1 hv').1 (by omega)
          rw [(List.getElem?_eq_some_iff.1 hv').2, (List.getElem?_eq_some_iff.1 hv).2] at h1
          omega
      have HLO2 := Lib.hid hlo2
      have HHI2 := Lib.hid hhi2
      clear hlo2 hhi2 hg hv ht hcall
      go_upto_region 17 with (fail)
      refine wp_region_calm (fun w1 => Own w0 w1 (slc 124 2 (.slice (some ⟨g, 0, none⟩) N c) N (rows ce L) :: ps)) 10 (by kernel_rfl) (by kernel_rfl) H.drew ?_
      simp only [List.take_succ_cons, List.take_zero, List.drop_succ_cons, List.drop_zero]
      have hmNI : (m : Int) < (N : Int) := by omega
      repeat
        first
        | (refine calm_value (v := ?_) (by decide) rfl (fun σ w1 hS => ?_) ?_
           rotate_left
           · obtain ⟨c1, c1'⟩ := el hS.rd HG.out; obtain ⟨c2, c2'⟩ := el hS.rd HGU.out
             first | (go_simp; rfl) | rfl
           simp only [Act.put, List.setIfInBounds_toArray, List.set_cons_zero, List.set_cons_succ])
        | (refine calm_skip (by decide) rfl ?_
           simp only [Act.put, List.setIfInBounds_toArray, List.set_cons_zero, List.set_cons_succ])
      refine calm_call (v := .int .i64 cv) (by decide) rfl (fun w1 => (by go_simp; first | exact ⟨rfl, rfl⟩ | rfl)) (fun σ w1 hS => ?_) ?_
      · refine (HCALL.out w1 hS).mono ?_
        rintro e w2 ⟨_, rfl, rfl, h2⟩
        exact ⟨rfl, hS.join h2⟩
      simp only [Act.put, List.setIfInBounds_toArray, List.set_cons_zero, List.set_cons_succ]
      refine calm_nil ?_
      intro wd HD
      clear H
      by_cases hk : key u < key v
      · have hk2 : decide (cv < 0) = true := by rw [hcl]; simp [hk]
        have hn := HHI2.out hk
        clear hk hcl HLO2
        go_wp2
        go_roundw
        case rel => exact ⟨i, h, rfl, by go_num, by omega, by omega, by omega, hlo, hn, HD⟩
        case measure => simp [intOf]; omega
      · have hk2 : decide (cv < 0) = false := by rw [hcl]; simp [hk]
        have hn := HLO2.out hk
        clear hk hcl HHI2
        go_wp2
        go_roundw
        case rel => exact ⟨h + 1, j, by go_num, rfl, by omega, by omega, by omega, hn, hhi, HD⟩
        case measure => simp [intOf]; omega
    · have hij2 : i = j := by omega
      subst hij2
      obtain ⟨x1, x2, hxs, hx1⟩ := split_at x (i - a) (by have := HM.out; omega)
      have hle1 : ∀ v ∈ x1, key v ≤ key u := fun v hv => by
        obtain ⟨t, ht, rfl⟩ := List.getElem_of_mem hv
        refine hlo.out t _ (by omega) ?_
        rw [hxs, List.getElem?_append_left ht, List.getElem?_eq_getElem ht]
      have hgt2 : ∀ v ∈ x2, key u < key v := fun v hv => by
        obtain ⟨t, ht, rfl⟩ := List.getElem_of_mem hv
        refine hhi.out (x1.length + t) _ (by omega) ?_
        rw [hxs, List.getElem?_append_right (by omega), Nat.add_sub_cancel_left, List.getElem?_eq_getElem ht]
      have hmrg : Mrg key x [u] (x1 ++ u :: x2) := by
        have := Mrg.one_right (key := key) (y := u) (x1 := x1) (x2 := x2) (by rw [← hxs]; exact HS.out) hle1 hgt2
        rwa [← hxs] at this
      have HMRG := Lib.hid hmrg
      have HX1 := Lib.hid hx1
      have hx12 : Hid (i + x2.length = m) := Lib.hid (by have h1 := HM.out; rw [hxs, List.length_append] at h1; omega)
      have hLe : Hid (L = p ++ x1 ++ x2 ++ u :: q) := Lib.hid (by rw [← hL.out, hxs]; simp)
      have hHL : Hid (L.length = N) := Lib.hid (by rw [← hL.out, ← HN.out])
      clear hlo hhi hxs hle1 hgt2 hmrg hx1 hlt
      rw [hLe.out] at H
      go_wp2_with fail
      go_loopw [17] (fun s13 wx => ∃ (k : Nat) (X1 X2 : List Coin), s13 = .int .i64 k ∧ i ≤ k ∧ k ≤ m ∧ Hid (x2 = X1 ++ X2) ∧ Hid (i + X1.length = k) ∧ Own w0 wx (slc 124 2 (.slice (some ⟨g, 0, none⟩) N c) N (rows ce (p ++ x1 ++ X1 ++ u :: (X2 ++ q))) :: ps)) (fun s13 _ => (intOf s13).toNat)
      case atStart => exact ⟨m, x2, [], rfl, by omega, by omega, Lib.hid (by simp), hx12, by simpa using H⟩
      case round =>
        clear H
        obtain ⟨k, X1, X2, rfl, hk1, hk2, hx2, hXl, H⟩ := hrel
        by_cases hki : i < k
        · obtain ⟨X3, v, hX1⟩ := last_split X1 (by have := hXl.out; omega)
          subst hX1
          have el1 : p ++ x1 ++ (X3 ++ [v]) ++ u :: (X2 ++ q) = (p ++ x1 ++ X3) ++ v :: ([] ++ u :: (X2 ++ q)) := by simp
          rw [el1] at H
          obtain ⟨k', rfl⟩ : ∃ k', k = k' + 1 := ⟨k - 1, by omega⟩
          have hkl : k' = (p ++ x1 ++ X3).length := by
            have h1 := hXl.out; have h2 := HP.out; have h3 := HX1.out
            rw [List.length_append, List.length_singleton] at h1
            simp only [List.length_append]
            omega
          have hLn : ((p ++ x1 ++ X3) ++ v :: ([] ++ u :: (X2 ++ q))).length = N := by
            rw [← hHL.out, hLe.out, hx2.out]
            simp only [List.length_append, List.length_cons, List.length_nil]
            omega
          have hg1 : ((p ++ x1 ++ X3) ++ v :: ([] ++ u :: (X2 ++ q)))[k']? = some v := get_mid _ _ _ hkl
          have hg2 : ((p ++ x1 ++ X3) ++ v :: ([] ++ u :: (X2 ++ q)))[k' + 1]? = some u := by
            have : (p ++ x1 ++ X3) ++ v :: ([] ++ u :: (X2 ++ q)) = ((p ++ x1 ++ X3) ++ [v]) ++ u :: (X2 ++ q) := by simp
            rw [this]
            exact get_mid _ _ _ (by rw [List.length_append (bs := [v]), List.length_singleton, ← hkl])
          have hsw := set_swap (p ++ x1 ++ X3) [] (X2 ++ q) v u (i := k') (j := k' + 1) hkl (by simp only [List.length_nil]; omega)
          obtain ⟨M, hM⟩ : ∃ M, Hid ((p ++ x1 ++ X3) ++ v :: ([] ++ u :: (X2 ++ q)) = M) := ⟨_, Lib.hid rfl⟩
          rw [hM.out] at H hg1 hg2 hsw hLn
          have HG1 := Lib.hid hg1
          have HG2 := Lib.hid hg2
          have e1 : (rows ce M).take ((k' + 1) * 2) ++ ce v ++ (rows ce M).drop ((k' + 1) * 2 + 2) = rows ce (M.set (k' + 1) v) := set_rows (by rw [hLn]; omega) v
          have e2 : (rows ce (M.set (k' + 1) v)).take (k' * 2) ++ ce u ++ (rows ce (M.set (k' + 1) v)).drop (k' * 2 + 2) = rows ce (p ++ x1 ++ X3 ++ u :: ((v :: X2) ++ q)) := by
            rw [set_rows (by rw [List.length_set, hLn]; omega) u, List.set_comm _ _ (by omega), hsw]
            simp
          have E1 := Lib.hid e1
          have E2 := Lib.hid e2
          have hik : i ≤ k' := by omega
          have hikI : (i : Int) < (k' : Int) + 1 := by omega
          have hkN : (k' : Int) < (N : Int) := by omega
          have hkN1 : (k' : Int) + 1 < (N : Int) := by omega
          have hkT : ((k' : Int) + 1).toNat = k' + 1 := by omega
          have hkw : IntKind.i64.wrap (k' : Int) = (k' : Int) := IntWalk.i64_in _ ⟨by omega, by omega⟩
          have hX' : Hid (x2 = X3 ++ (v :: X2)) := Lib.hid (by rw [hx2.out]; simp)
          have hXl' : Hid (i + X3.length = k') := Lib.hid (by have := hXl.out; rw [List.length_append, List.length_singleton] at this; omega)
          clear hg1 hg2 hsw hLn e1 e2 el1 hkl hM hki
          go_upto_region 23 with (fail)
          refine wp_region_pres (fun _ w1 => Own w0 w1 (slc 124 2 (.slice (some ⟨g, 0, none⟩) N c) N (rows ce M) :: ps)) 14 [] [2, 3, 4] (by kernel_rfl) (by kernel_rfl) (by kernel_rfl) (by kernel_rfl) (fun _ _ d _ _ h => by cases d <;> exact h) ⟨_, _, rfl, fun w => (by first | rfl | (go_simp; rfl)), _, _, rfl, fun w => (by first | rfl | (go_simp; rfl)), _, _, rfl, fun w => (by first | rfl | (go_simp; rfl)), rfl⟩ H.drew ?_
          simp only [List.take_succ_cons, List.take_zero, List.drop_succ_cons, List.drop_zero]
          repeat
            first
            | (refine calm_value (v := ?_) (by decide) rfl (fun σ w1 hS => ?_) ?_
               rotate_left
               · obtain ⟨c1, c1'⟩ := el hS.rd HG1.out; obtain ⟨c2, c2'⟩ := el hS.rd HG2.out
                 first | (go_simp; rfl) | rfl
               simp only [Act.put, List.setIfInBounds_toArray, List.set_cons_zero, List.set_cons_succ])
            | (refine calm_skip (by decide) rfl ?_
               simp only [Act.put, List.setIfInBounds_toArray, List.set_cons_zero, List.set_cons_succ])
          refine calm_nil ?_
          intro σ2 wd2 _ H2
          simp only [putNew, List.foldl_nil]
          clear H
          go_wp2_with (first
            | (refine wpList_store_elem rfl _ _ rfl (i := k' + 1) (by first | rfl | (rw [Nat.mul_one]; rfl)) H2 (ce v) rfl (by kernel_rfl) rfl (by omega) (e_one v) ?_; clear H2; intro w5 H; rw [E1.out] at H)
            | (refine wpList_store_elem rfl _ _ rfl (i := k') (by first | rfl | (rw [Nat.mul_one]; rfl)) H (ce u) rfl (by kernel_rfl) rfl (by omega) (e_one u) ?_; clear H; intro w6 H; rw [E2.out] at H))
          go_roundw
          case rel => exact ⟨k', X3, v :: X2, by go_num, by omega, by omega, hX', hXl', H⟩
          case measure => simp [intOf]
        · have hik2 : k = i := by omega
          subst hik2
          have hX10 : X1 = [] := by have := hXl.out; exact List.eq_nil_of_length_eq_zero (by omega)
          have e1 : Hid (x2 = X2) := Lib.hid (by rw [hx2.out, hX10, List.nil_append])
          have el2 : p ++ x1 ++ X1 ++ u :: (X2 ++ q) = p ++ (x1 ++ u :: x2) ++ q := by rw [hX10, e1.out]; simp
          rw [el2] at H
          clear el2 hX10 hki
          go_wp2
          go_end0
          exact ⟨_, rfl, _, HMRG.out, by simpa using H⟩
end
end SC
end Go.Proofs.Ytljejkdkjnbmhaa
/- The stable sort of slices of coins: the walk of symMerge: what comes behind the search. (Written by tools/srt.py.) -/
namespace Go.Proofs.Ytljejkdkjnbmhaa
open Go.RowKit
namespace SC
noncomputable def symTail (r : Nat) : Code := ((Try.f90.body.bind (fromR r)).getD .skip)
/-- What symMerge does with two parts of f elements at most. -/
def SymAt (w0 : World) (ps : List Piece) (ok : Coin → Prop) (key : Coin → Int) (B g c N f : Nat) : Prop :=
  ∀ (w : World) (p x y q : List Coin) (a m b : Nat), x.length + y.length ≤ f → (∀ v ∈ x, ok v) → (∀ v ∈ y, ok v) → Srt key x → Srt key y → a = p.length → m = a + x.length → b = m + y.length → 0 < x.length → 0 < y.length → N = (p ++ x ++ y ++ q).length →
    Own w0 w (slc 124 2 (.slice (some ⟨g, 0, none⟩) N c) N (rows ce (p ++ x ++ y ++ q)) :: ps) →
    Calls Try.prog 90 #[.slice (some ⟨g, 0, none⟩) N c, .int .i64 a, .int .i64 m, .int .i64 b, cf B] w (Ret fun _ w' => ∃ z, Mrg key x y z ∧ Own w0 w' (slc 124 2 (.slice (some ⟨g, 0, none⟩) N c) N (rows ce (p ++ z ++ q)) :: ps))
section
variable {w0 : World} {ps : List Piece} {ok : Coin → Prop} {key : Coin → Int} {B : Nat}
set_option maxRecDepth 1000000 in
set_option maxHeartbeats 12800000 in
theorem tail3 {g c N f : Nat} {p q x y X1 X2 Y1 Y2 : List Coin} {a m b s en mid : Nat} {M1 : List Coin} (wr : World) (hNb : N ≤ 1000000) (IH : Hid (SymAt w0 ps ok key B g c N f)) (HFINAL : Hid (∀ z1 z2, Mrg key X1 Y1 z1 → Mrg key X2 Y2 z2 → Mrg key x y (z1 ++ z2)))
    (HOX1 : Hid (∀ v ∈ X1, ok v)) (HOX2 : Hid (∀ v ∈ X2, ok v)) (HOY1 : Hid (∀ v ∈ Y1, ok v)) (HOY2 : Hid (∀ v ∈ Y2, ok v)) (HSX1 : Hid (Srt key X1)) (HSX2 : Hid (Srt key X2)) (HSY1 : Hid (Srt key Y1)) (HSY2 : Hid (Srt key Y2))
    (HNL : Hid (N = (p ++ X1 ++ X2 ++ Y1 ++ Y2 ++ q).length)) (HMID2 : Hid (mid + mid ≤ a + b ∧ a + b ≤ mid + mid + 1)) (ham : a + 2 ≤ m) (hmb : m + 2 ≤ b) (hbN : b ≤ N)
    (hlens : Hid (a = p.length ∧ s = a + X1.length ∧ m = s + X2.length ∧ en = m + Y1.length ∧ b = en + Y2.length ∧ mid = s + Y1.length ∧ en = mid + X2.length ∧ X1.length + X2.length + (Y1.length + Y2.length) ≤ f + 1 ∧ 0 < X1.length + X2.length ∧ 0 < Y1.length + Y2.length))
    (hensN1 : en ≤ N) (hensN2 : s ≤ N) (hmN1 : mid ≤ N) (hM1 : Hid (Mrg key X1 Y1 M1)) (z5 z6 z7 z8 z9 z10 z11 z12 z13 z14 z15 z16 z17 z19 z21 z22 z23 z25 z26 z27 z28 z29 z30 z31 z32 z33 z34 z35 z36 z37 z38 z39 z40 z41 z42 z43 z44 z45 z46 z47 z48 z49 z50 z51 z52 z53 z54 z55 z56 z57 z58 z59 z60 z61 z62 z63 z64 z65 z66 z67 z68 z69 z70 z71 z72 z73 z74 z75 z76 z77 z78 z79 z80 z81 z82 z83 z84 z85 z86 z87 z88 z89 z90 z91 z92 z93 z94 z95 z96 z97 z98 z99 z100 z101 z102 z103 z104 z105 z106 z107 z108 z109 z110 z111 z112 z113 z114 z115 z116 z117 z118 z119 z120 z121 z122 z123 z124 z125 z126 z127 z128 z129 z130 z131 z132 z133 z134 z135 z136 z137 z138 z139 z140 z141 z142 z143 z144 z145 z146 z147 z148 z149 z150 z151 z152 z153 z154 z155 z156 z157 z158 z159 z160 z161 z162 z163 z164 z165 z166 z167 z168 z169 z170 z171 z172 z173 z174 z175 z176 z177 z178 z179 z180 z181 z182 z183 z184 z185 z186 z187 z188 z189 z190 z191 z192 z193 z194 z195 z196 z197 z198 z199 z200 z201 z202 z203 z204 z205 z206 z207 z208 z209 z210 z211 z212 z213 z214 z215 z216 z217 z218 z219 : Value)
    (H : Own w0 wr (slc 124 2 (.slice (some ⟨g, 0, none⟩) N c) N (rows ce (p ++ M1 ++ X2 ++ Y2 ++ q)) :: ps)) :
    Code.wp Try.prog (symTail 43) (bodyPost Try.prog Try.f90 (Ret fun _ w' => ∃ z, Mrg key x y z ∧ Own w0 w' (slc 124 2 (.slice (some ⟨g, 0, none⟩) N c) N (rows ce (p ++ z ++ q)) :: ps))) ⟨#[.slice (some ⟨g, 0, none⟩) N c, .int .i64 a, .int .i64 m, .int .i64 b, cf B, z5, z6, z7, z8, z9, z10, z11, z12, z13, z14, z15, z16, z17, .int .i64 mid, z19, .int .i64 s, z21, z22, z23, .int .i64 en, z25, z26, z27, z28, z29, z30, z31, z32, z33, z34, z35, z36, z37, z38, z39, z40, z41, z42, z43, z44, z45, z46, z47, z48, z49, z50, z51, z52, z53, z54, z55, z56, z57, z58, z59, z60, z61, z62, z63, z64, z65, z66, z67, z68, z69, z70, z71, z72, z73, z74, z75, z76, z77, z78, z79, z80, z81, z82, z83, z84, z85, z86, z87, z88, z89, z90, z91, z92, z93, z94, z95, z96, z97, z98, z99, z100, z101, z102, z103, z104, z105, z106, z107, z108, z109, z110, z111, z112, z113, z114, z115, z116, z117, z118, z119, z120, z121, z122, z123, z124, z125, z126, z127, z128, z129, z130, z131, z132, z133, z134, z135, z136, z137, z138, z139, z140, z141, z142, z143, z144, z145, z146, z147, z148, z149, z150, z151, z152, z153, z154, z155, z156, z157, z158, z159, z160, z161, z162, z163, z164, z165, z166, z167, z168, z169, z170, z171, z172, z173, z174, z175, z176, z177, z178, z179, z180, z181, z182, z183, z184, z185, z186, z187, z188, z189, z190, z191, z192, z193, z194, z195, z196, z197, z198, z199, z200, z201, z202, z203, z204, z205, z206, z207, z208, z209, z210, z211, z212, z213, z214, z215, z216, z217, z218, z219], []⟩ wr := by
  conv => arg 2; whnf
  dsimp only
  have hM1l : Hid (M1.length = X1.length + Y1.length) := Lib.hid (by rw [← hM1.out.2.length, List.length_append])
  have hNL3 : Hid (N = (p ++ M1 ++ X2 ++ Y2 ++ q).length) := Lib.hid (by rw [HNL.out]; have := hM1l.out; simp only [List.length_append]; omega)
  obtain ⟨t3, ht3⟩ : ∃ t, Hid ((decide (mid < en) && decide (en < b)) = t) := ⟨_, Lib.hid rfl⟩
  go_upto_region 43 with (fail)
  go_cut [213] (fun s1 wx => s1 = .bool t3 ∧ Own w0 wx (slc 124 2 (.slice (some ⟨g, 0, none⟩) N c) N (rows ce (p ++ M1 ++ X2 ++ Y2 ++ q)) :: ps))
  case first =>
    by_cases h1 : mid < en
    · by_cases h2 : en < b
      · have e : Hid (t3 = true) := Lib.hid (by rw [← ht3.out]; simp [h1, h2])
        go_wp2
        go_meet
        exact ⟨by rw [e.out], H⟩
      · have e : Hid (t3 = false) := Lib.hid (by rw [← ht3.out]; simp [h2])
        go_wp2
        go_meet
        exact ⟨by rw [e.out], H⟩
    · have e : Hid (t3 = false) := Lib.hid (by rw [← ht3.out]; simp [h1])
      go_wp2
      go_meet
      exact ⟨by rw [e.out], H⟩
  case rest =>
  clear H
  obtain ⟨rfl, H⟩ := hcut
  obtain ⟨l1, l2, l3, l4, l5, l6, l7, l8, l9, l10⟩ := hlens.out
  have hM1l' := hM1l.out
  have hm2 := HMID2.out
  cases t3 with
  | true =>
    have h := ht3.out
    simp only [Bool.and_eq_true, decide_eq_true_eq] at h
    have e1 : p ++ M1 ++ X2 ++ Y2 ++ q = (p ++ M1) ++ X2 ++ Y2 ++ q := by simp
    have hr := IH.out wc (p ++ M1) X2 Y2 q mid en b (by omega) HOX2.out HOY2.out HSX2.out HSY2.out (by rw [List.length_append]; omega) l7 l5 (by omega) (by omega) (by rw [← e1]; exact hNL3.out) (by rw [← e1]; exact H)
    have HR := Lib.hid hr
    clear hr l1 l2 l3 l4 l5 l6 l7 l8 l9 l10 h e1 hM1l' hm2
    go_wp2_with fail
    refine HR.out.mono ?_
    rintro e w3 ⟨_, rfl, z, hz, H3⟩
    clear HR H
    go_wp2
    go_end0
    exact ⟨_, rfl, M1 ++ z, HFINAL.out _ _ hM1.out hz, by simpa using H3⟩
  | false =>
    have h := ht3.out
    simp only [Bool.and_eq_false_iff, decide_eq_false_iff_not] at h
    have e1 : Hid (Mrg key X2 Y2 (X2 ++ Y2)) := Lib.hid (by
      rcases h with h | h
      · have : X2 = [] := List.eq_nil_of_length_eq_zero (by omega)
        rw [this]; exact Mrg.right HSY2.out
      · have : Y2 = [] := List.eq_nil_of_length_eq_zero (by omega)
        rw [this, List.append_nil]; exact Mrg.left HSX2.out)
    clear l1 l2 l3 l4 l5 l6 l7 l8 l9 l10 h hM1l' hm2
    go_wp2
    go_end0
    exact ⟨_, rfl, M1 ++ (X2 ++ Y2), HFINAL.out _ _ hM1.out e1.out, by simpa using H⟩

set_option maxRecDepth 1000000 in
set_option maxHeartbeats 12800000 in
theorem tail2 {g c N f : Nat} {p q x y X1 X2 Y1 Y2 : List Coin} {a m b s en mid : Nat} (wr : World) (hNb : N ≤ 1000000) (IH : Hid (SymAt w0 ps ok key B g c N f)) (HFINAL : Hid (∀ z1 z2, Mrg key X1 Y1 z1 → Mrg key X2 Y2 z2 → Mrg key x y (z1 ++ z2)))
    (HOX1 : Hid (∀ v ∈ X1, ok v)) (HOX2 : Hid (∀ v ∈ X2, ok v)) (HOY1 : Hid (∀ v ∈ Y1, ok v)) (HOY2 : Hid (∀ v ∈ Y2, ok v)) (HSX1 : Hid (Srt key X1)) (HSX2 : Hid (Srt key X2)) (HSY1 : Hid (Srt key Y1)) (HSY2 : Hid (Srt key Y2))
    (HNL : Hid (N = (p ++ X1 ++ X2 ++ Y1 ++ Y2 ++ q).length)) (HMID2 : Hid (mid + mid ≤ a + b ∧ a + b ≤ mid + mid + 1)) (ham : a + 2 ≤ m) (hmb : m + 2 ≤ b) (hbN : b ≤ N)
    (hlens : Hid (a = p.length ∧ s = a + X1.length ∧ m = s + X2.length ∧ en = m + Y1.length ∧ b = en + Y2.length ∧ mid = s + Y1.length ∧ en = mid + X2.length ∧ X1.length + X2.length + (Y1.length + Y2.length) ≤ f + 1 ∧ 0 < X1.length + X2.length ∧ 0 < Y1.length + Y2.length))
    (hensN1 : en ≤ N) (hensN2 : s ≤ N) (hmN1 : mid ≤ N) (z5 z6 z7 z8 z9 z10 z11 z12 z13 z14 z15 z16 z17 z19 z21 z22 z23 z25 z26 z27 z28 z29 z30 z31 z32 z33 z34 z35 z36 z37 z38 z39 z40 z41 z42 z43 z44 z45 z46 z47 z48 z49 z50 z51 z52 z53 z54 z55 z56 z57 z58 z59 z60 z61 z62 z63 z64 z65 z66 z67 z68 z69 z70 z71 z72 z73 z74 z75 z76 z77 z78 z79 z80 z81 z82 z83 z84 z85 z86 z87 z88 z89 z90 z91 z92 z93 z94 z95 z96 z97 z98 z99 z100 z101 z102 z103 z104 z105 z106 z107 z108 z109 z110 z111 z112 z113 z114 z115 z116 z117 z118 z119 z120 z121 z122 z123 z124 z125 z126 z127 z128 z129 z130 z131 z132 z133 z134 z135 z136 z137 z138 z139 z140 z141 z142 z143 z144 z145 z146 z147 z148 z149 z150 z151 z152 z153 z154 z155 z156 z157 z158 z159 z160 z161 z162 z163 z164 z165 z166 z167 z168 z169 z170 z171 z172 z173 z174 z175 z176 z177 z178 z179 z180 z181 z182 z183 z184 z185 z186 z187 z188 z189 z190 z191 z192 z193 z194 z195 z196 z197 z198 z199 z200 z201 z202 z203 z204 z205 z206 z207 z208 z209 z210 z211 z212 z213 z214 z215 z216 z217 z218 z219 : Value)
    (H : Own w0 wr (slc 124 2 (.slice (some ⟨g, 0, none⟩) N c) N (rows ce (p ++ X1 ++ Y1 ++ X2 ++ Y2 ++ q)) :: ps)) :
    Code.wp Try.prog (symTail 41) (bodyPost Try.prog Try.f90 (Ret fun _ w' => ∃ z, Mrg key x y z ∧ Own w0 w' (slc 124 2 (.slice (some ⟨g, 0, none⟩) N c) N (rows ce (p ++ z ++ q)) :: ps))) ⟨#[.slice (some ⟨g, 0, none⟩) N c, .int .i64 a, .int .i64 m, .int .i64 b, cf B, z5, z6, z7, z8, z9, z10, z11, z12, z13, z14, z15, z16, z17, .int .i64 mid, z19, .int .i64 s, z21, z22, z23, .int .i64 en, z25, z26, z27, z28, z29, z30, z31, z32, z33, z34, z35, z36, z37, z38, z39, z40, z41, z42, z43, z44, z45, z46, z47, z48, z49, z50, z51, z52, z53, z54, z55, z56, z57, z58, z59, z60, z61, z62, z63, z64, z65, z66, z67, z68, z69, z70, z71, z72, z73, z74, z75, z76, z77, z78, z79, z80, z81, z82, z83, z84, z85, z86, z87, z88, z89, z90, z91, z92, z93, z94, z95, z96, z97, z98, z99, z100, z101, z102, z103, z104, z105, z106, z107, z108, z109, z110, z111, z112, z113, z114, z115, z116, z117, z118, z119, z120, z121, z122, z123, z124, z125, z126, z127, z128, z129, z130, z131, z132, z133, z134, z135, z136, z137, z138, z139, z140, z141, z142, z143, z144, z145, z146, z147, z148, z149, z150, z151, z152, z153, z154, z155, z156, z157, z158, z159, z160, z161, z162, z163, z164, z165, z166, z167, z168, z169, z170, z171, z172, z173, z174, z175, z176, z177, z178, z179, z180, z181, z182, z183, z184, z185, z186, z187, z188, z189, z190, z191, z192, z193, z194, z195, z196, z197, z198, z199, z200, z201, z202, z203, z204, z205, z206, z207, z208, z209, z210, z211, z212, z213, z214, z215, z216, z217, z218, z219], []⟩ wr := by
  conv => arg 2; whnf
  dsimp only
  have hNL2 : Hid (N = (p ++ X1 ++ Y1 ++ X2 ++ Y2 ++ q).length) := Lib.hid (by rw [HNL.out]; simp only [List.length_append]; omega)
  obtain ⟨t2, ht2⟩ : ∃ t, Hid ((decide (a < s) && decide (s < mid)) = t) := ⟨_, Lib.hid rfl⟩
  go_upto_region 41 with (fail)
  go_cut [199] (fun s1 wx => s1 = .bool t2 ∧ Own w0 wx (slc 124 2 (.slice (some ⟨g, 0, none⟩) N c) N (rows ce (p ++ X1 ++ Y1 ++ X2 ++ Y2 ++ q)) :: ps))
  case first =>
    by_cases h1 : a < s
    · by_cases h2 : s < mid
      · have e : Hid (t2 = true) := Lib.hid (by rw [← ht2.out]; simp [h1, h2])
        go_wp2
        go_meet
        exact ⟨by rw [e.out], H⟩
      · have e : Hid (t2 = false) := Lib.hid (by rw [← ht2.out]; simp [h2])
        go_wp2
        go_meet
        exact ⟨by rw [e.out], H⟩
    · have e : Hid (t2 = false) := Lib.hid (by rw [← ht2.out]; simp [h1])
      go_wp2
      go_meet
      exact ⟨by rw [e.out], H⟩
  case rest =>
  clear H
  obtain ⟨rfl, H⟩ := hcut
  go_upto_if 199 with (fail)
  go_cut [] (fun wx => ∃ M1, Hid (Mrg key X1 Y1 M1) ∧ Own w0 wx (slc 124 2 (.slice (some ⟨g, 0, none⟩) N c) N (rows ce (p ++ M1 ++ X2 ++ Y2 ++ q)) :: ps))
  case first =>
    obtain ⟨l1, l2, l3, l4, l5, l6, l7, l8, l9, l10⟩ := hlens.out
    have hm2 := HMID2.out
    cases t2 with
    | true =>
      have h := ht2.out
      simp only [Bool.and_eq_true, decide_eq_true_eq] at h
      have e1 : p ++ X1 ++ Y1 ++ X2 ++ Y2 ++ q = p ++ X1 ++ Y1 ++ (X2 ++ Y2 ++ q) := by simp
      have hr := IH.out wc p X1 Y1 (X2 ++ Y2 ++ q) a s mid (by omega) HOX1.out HOY1.out HSX1.out HSY1.out l1 l2 l6 (by omega) (by omega) (by rw [← e1]; exact hNL2.out) (by rw [← e1]; exact H)
      have HR := Lib.hid hr
      clear hr l1 l2 l3 l4 l5 l6 l7 l8 l9 l10 h e1 hm2
      go_wp2_with fail
      refine HR.out.mono ?_
      rintro e w3 ⟨_, rfl, z, hz, H3⟩
      clear HR H
      go_wp2
      go_meet
      exact ⟨z, Lib.hid hz, by simpa using H3⟩
    | false =>
      have h := ht2.out
      simp only [Bool.and_eq_false_iff, decide_eq_false_iff_not] at h
      have e1 : Hid (Mrg key X1 Y1 (X1 ++ Y1)) := Lib.hid (by
        rcases h with h | h
        · have : X1 = [] := List.eq_nil_of_length_eq_zero (by omega)
          rw [this]; exact Mrg.right HSY1.out
        · have : Y1 = [] := List.eq_nil_of_length_eq_zero (by omega)
          rw [this, List.append_nil]; exact Mrg.left HSX1.out)
      clear l1 l2 l3 l4 l5 l6 l7 l8 l9 l10 h hm2
      go_wp2
      go_meet
      exact ⟨X1 ++ Y1, e1, by simpa using H⟩
  case rest =>
  clear H
  obtain ⟨M1, hM1, H⟩ := hcut
  apply_assumption
  exact tail3 (p := p) (q := q) (x := x) (y := y) (X1 := X1) (X2 := X2) (Y1 := Y1) (Y2 := Y2) (a := a) (m := m) (b := b) (s := s) (en := en) (mid := mid) (M1 := M1) wc hNb IH HFINAL HOX1 HOX2 HOY1 HOY2 HSX1 HSX2 HSY1 HSY2 HNL HMID2 ham hmb hbN hlens hensN1 hensN2 hmN1 hM1 _ _ _ _ _ _ _ _ _ _ _ _ _ _ _ _ _ _ _ _ _ _ _ _ _ _ _ _ _ _ _ _ _ _ _ _ _ _ _ _ _ _ _ _ _ _ _ _ _ _ _ _ _ _ _ _ _ _ _ _ _ _ _ _ _ _ _ _ _ _ _ _ _ _ _ _ _ _ _ _ _ _ _ _ _ _ _ _ _ _ _ _ _ _ _ _ _ _ _ _ _ _ _ _ _ _ _ _ _ _ _ _ _ _ _ _ _ _ _ _ _ _ _ _ _ _ _ _ _ _ _ _ _ _ _ _ _ _ _ _ _ _ _ _ _ _ _ _ _ _ _ _ _ _ _ _ _ _ _ _ _ _ _ _ _ _ _ _ _ _ _ _ _ _ _ _ _ _ _ _ _ _ _ _ _ _ _ _ _ _ _ _ _ _ _ _ _ _ _ _ _ _ _ _ _ _ _ _ _ _ _ _ H

set_option maxRecDepth 1000000 in
set_option maxHeartbeats 12800000 in
theorem tail_any {g c N f : Nat} {p q x y X1 X2 Y1 Y2 : List Coin} {a m b s en mid : Nat} {n : Nat} (wr : World) (hNb : N ≤ 1000000) (IH : Hid (SymAt w0 ps ok key B g c N f)) (HFINAL : Hid (∀ z1 z2, Mrg key X1 Y1 z1 → Mrg key X2 Y2 z2 → Mrg key x y (z1 ++ z2)))
    (HOX1 : Hid (∀ v ∈ X1, ok v)) (HOX2 : Hid (∀ v ∈ X2, ok v)) (HOY1 : Hid (∀ v ∈ Y1, ok v)) (HOY2 : Hid (∀ v ∈ Y2, ok v)) (HSX1 : Hid (Srt key X1)) (HSX2 : Hid (Srt key X2)) (HSY1 : Hid (Srt key Y1)) (HSY2 : Hid (Srt key Y2))
    (HNL : Hid (N = (p ++ X1 ++ X2 ++ Y1 ++ Y2 ++ q).length)) (HMID2 : Hid (mid + mid ≤ a + b ∧ a + b ≤ mid + mid + 1)) (ham : a + 2 ≤ m) (hmb : m + 2 ≤ b) (hbN : b ≤ N)
    (hlens : Hid (a = p.length ∧ s = a + X1.length ∧ m = s + X2.length ∧ en = m + Y1.length ∧ b = en + Y2.length ∧ mid = s + Y1.length ∧ en = mid + X2.length ∧ X1.length + X2.length + (Y1.length + Y2.length) ≤ f + 1 ∧ 0 < X1.length + X2.length ∧ 0 < Y1.length + Y2.length))
    (hensN1 : en ≤ N) (hensN2 : s ≤ N) (hmN1 : mid ≤ N) (henI : ((n : Int) - (s : Int)) = (en : Int)) (hsn : s ≤ n) (hmN2 : n ≤ 2 * N) (z5 z6 z7 z8 z9 z10 z11 z12 z13 z14 z15 z16 z17 z21 z22 z23 z24 z25 z26 z27 z28 z29 z30 z31 z32 z33 z34 z35 z36 z37 z38 z39 z40 z41 z42 z43 z44 z45 z46 z47 z48 z49 z50 z51 z52 z53 z54 z55 z56 z57 z58 z59 z60 z61 z62 z63 z64 z65 z66 z67 z68 z69 z70 z71 z72 z73 z74 z75 z76 z77 z78 z79 z80 z81 z82 z83 z84 z85 z86 z87 z88 z89 z90 z91 z92 z93 z94 z95 z96 z97 z98 z99 z100 z101 z102 z103 z104 z105 z106 z107 z108 z109 z110 z111 z112 z113 z114 z115 z116 z117 z118 z119 z120 z121 z122 z123 z124 z125 z126 z127 z128 z129 z130 z131 z132 z133 z134 z135 z136 z137 z138 z139 z140 z141 z142 z143 z144 z145 z146 z147 z148 z149 z150 z151 z152 z153 z154 z155 z156 z157 z158 z159 z160 z161 z162 z163 z164 z165 z166 z167 z168 z169 z170 z171 z172 z173 z174 z175 z176 z177 z178 z179 z180 z181 z182 z183 z184 z185 z186 z187 z188 z189 z190 z191 z192 z193 z194 z195 z196 z197 z198 z199 z200 z201 z202 z203 z204 z205 z206 z207 z208 z209 z210 z211 z212 z213 z214 z215 z216 z217 z218 z219 : Value)
    (H : Own w0 wr (slc 124 2 (.slice (some ⟨g, 0, none⟩) N c) N (rows ce (p ++ X1 ++ X2 ++ Y1 ++ Y2 ++ q)) :: ps)) :
    Code.wp Try.prog (symTail 38) (bodyPost Try.prog Try.f90 (Ret fun _ w' => ∃ z, Mrg key x y z ∧ Own w0 w' (slc 124 2 (.slice (some ⟨g, 0, none⟩) N c) N (rows ce (p ++ z ++ q)) :: ps))) ⟨#[.slice (some ⟨g, 0, none⟩) N c, .int .i64 a, .int .i64 m, .int .i64 b, cf B, z5, z6, z7, z8, z9, z10, z11, z12, z13, z14, z15, z16, z17, .int .i64 mid, .int .i64 n, .int .i64 s, z21, z22, z23, z24, z25, z26, z27, z28, z29, z30, z31, z32, z33, z34, z35, z36, z37, z38, z39, z40, z41, z42, z43, z44, z45, z46, z47, z48, z49, z50, z51, z52, z53, z54, z55, z56, z57, z58, z59, z60, z61, z62, z63, z64, z65, z66, z67, z68, z69, z70, z71, z72, z73, z74, z75, z76, z77, z78, z79, z80, z81, z82, z83, z84, z85, z86, z87, z88, z89, z90, z91, z92, z93, z94, z95, z96, z97, z98, z99, z100, z101, z102, z103, z104, z105, z106, z107, z108, z109, z110, z111, z112, z113, z114, z115, z116, z117, z118, z119, z120, z121, z122, z123, z124, z125, z126, z127, z128, z129, z130, z131, z132, z133, z134, z135, z136, z137, z138, z139, z140, z141, z142, z143, z144, z145, z146, z147, z148, z149, z150, z151, z152, z153, z154, z155, z156, z157, z158, z159, z160, z161, z162, z163, z164, z165, z166, z167, z168, z169, z170, z171, z172, z173, z174, z175, z176, z177, z178, z179, z180, z181, z182, z183, z184, z185, z186, z187, z188, z189, z190, z191, z192, z193, z194, z195, z196, z197, z198, z199, z200, z201, z202, z203, z204, z205, z206, z207, z208, z209, z210, z211, z212, z213, z214, z215, z216, z217, z218, z219], []⟩ wr := by
  conv => arg 2; whnf
  dsimp only
  obtain ⟨t1, ht1⟩ : ∃ t, Hid ((decide (s < m) && decide (m < en)) = t) := ⟨_, Lib.hid rfl⟩
  go_upto_region 39 with (fail)
  go_cut [185] (fun s1 wx => s1 = .bool t1 ∧ Own w0 wx (slc 124 2 (.slice (some ⟨g, 0, none⟩) N c) N (rows ce (p ++ X1 ++ X2 ++ Y1 ++ Y2 ++ q)) :: ps))
  case first =>
    by_cases h1 : s < m
    · by_cases h2 : m < en
      · have e : Hid (t1 = true) := Lib.hid (by rw [← ht1.out]; simp [h1, h2])
        go_wp2
        go_meet
        exact ⟨by rw [e.out], H⟩
      · have e : Hid (t1 = false) := Lib.hid (by rw [← ht1.out]; simp [h2])
        go_wp2
        go_meet
        exact ⟨by rw [e.out], H⟩
    · have e : Hid (t1 = false) := Lib.hid (by rw [← ht1.out]; simp [h1])
      go_wp2
      go_meet
      exact ⟨by rw [e.out], H⟩
  case rest =>
  clear H
  obtain ⟨rfl, H⟩ := hcut
  go_upto_if 185 with (fail)
  go_cut [] (fun wx => Own w0 wx (slc 124 2 (.slice (some ⟨g, 0, none⟩) N c) N (rows ce (p ++ X1 ++ Y1 ++ X2 ++ Y2 ++ q)) :: ps))
  case first =>
    obtain ⟨l1, l2, l3, l4, l5, l6, l7, l8, l9, l10⟩ := hlens.out
    cases t1 with
    | true =>
      have h := ht1.out
      simp only [Bool.and_eq_true, decide_eq_true_eq] at h
      have e1 : p ++ X1 ++ X2 ++ Y1 ++ Y2 ++ q = (p ++ X1) ++ X2 ++ Y1 ++ (Y2 ++ q) := by simp
      have hr := rotate_any (w0 := w0) (w := wc) (ps := ps) (g := g) (c := c) (N := N) (p := p ++ X1) (x := X2) (y := Y1) (q := Y2 ++ q) (a := s) (m := m) (b := en) (cf B) (by rw [List.length_append]; omega) l3 l4 (by omega) (by omega) (by rw [← e1]; exact HNL.out) hNb (by rw [← e1]; exact H)
      have HR := Lib.hid hr
      clear hr l1 l2 l3 l4 l5 l6 l7 l8 l9 l10 h e1
      go_wp2_with fail
      refine HR.out.mono ?_
      rintro e w3 ⟨_, rfl, H3⟩
      clear HR H
      go_wp2
      go_meet
      simpa using H3
    | false =>
      have h := ht1.out
      simp only [Bool.and_eq_false_iff, decide_eq_false_iff_not] at h
      have e1 : p ++ X1 ++ X2 ++ Y1 ++ Y2 ++ q = p ++ X1 ++ Y1 ++ X2 ++ Y2 ++ q := by
        rcases h with h | h
        · have : X2 = [] := List.eq_nil_of_length_eq_zero (by omega)
          rw [this]; simp
        · have : Y1 = [] := List.eq_nil_of_length_eq_zero (by omega)
          rw [this]; simp
      rw [e1] at H
      clear l1 l2 l3 l4 l5 l6 l7 l8 l9 l10 h e1
      go_wp2
      go_meet
      exact H
  case rest =>
  clear H
  have H := hcut
  clear hcut
  apply_assumption
  exact tail2 (p := p) (q := q) (x := x) (y := y) (X1 := X1) (X2 := X2) (Y1 := Y1) (Y2 := Y2) (a := a) (m := m) (b := b) (s := s) (en := en) (mid := mid) wc hNb IH HFINAL HOX1 HOX2 HOY1 HOY2 HSX1 HSX2 HSY1 HSY2 HNL HMID2 ham hmb hbN hlens hensN1 hensN2 hmN1 _ _ _ _ _ _ _ _ _ _ _ _ _ _ _ _ _ _ _ _ _ _ _ _ _ _ _ _ _ _ _ _ _ _ _ _ _ _ _ _ _ _ _ _ _ _ _ _ _ _ _ _ _ _ _ _ _ _ _ _ _ _ _ _ _ _ _ _ _ _ _ _ _ _ _ _ _ _ _ _ _ _ _ _ _ _ _ _ _ _ _ _ _ _ _ _ _ _ _ _ _ _ _ _ _ _ _ _ _ _ _ _ _ _ _ _ _ _ _ _ _ _ _ _ _ _ _ _ _ _ _ _ _ _ _ _ _ _ _ _ _ _ _ _ _ _ _ _ _ _ _ _ _ _ _ _ _ _ _ _ _ _ _ _ _ _ _ _ _ _ _ _ _ _ _ _ _ _ _ _ _ _ _ _ _ _ _ _ _ _ _ _ _ _ _ _ _ _ _ _ _ _ _ _ _ _ _ _ _ _ _ _ H
end
end SC
end Go.Proofs.Ytljejkdkjnbmhaa
/- The stable sort of slices of coins: the walk of symMerge. (Written by tools/srt.py.) -/
namespace Go.Proofs.Ytljejkdkjnbmhaa
open Go.RowKit
namespace SC
theorem srt_le {α : Type} {key : α → Int} {l : List α} (h : Srt key l) {i j : Nat} {u v : α} (hu : l[i]? = some u) (hv : l[j]? = some v) (hij : i ≤ j) : key u ≤ key v := by
  obtain ⟨h1, rfl⟩ := List.getElem?_eq_some_iff.1 hu
  obtain ⟨h2, rfl⟩ := List.getElem?_eq_some_iff.1 hv
  rcases Nat.lt_or_eq_of_le hij with h3 | h3
  · exact List.pairwise_iff_getElem.1 h i j h1 h2 h3
  · subst h3; exact Int.le_refl _
section
variable {w0 : World} {ps : List Piece} {ok : Coin → Prop} {key : Coin → Int} {B : Nat}
set_option maxRecDepth 100000 in
set_option maxHeartbeats 12800000 in
theorem sym_any {g c N : Nat} (hcmp : Cmps w0 ps B ok key) (hNb : N ≤ 1000000) : ∀ (f : Nat), SymAt w0 ps ok key B g c N f := by
  intro f
  induction f with
  | zero => intro w p x y q a m b hf _ _ _ _ _ _ _ h1 _ _ _; omega
  | succ f ih =>
  intro w p x y q a m b hf hokx hoky hsx hsy ha hm hb hx0 hy0 hN H
  by_cases hx1 : x.length = 1
  · obtain ⟨u, rfl⟩ := List.length_eq_one_iff.1 hx1
    exact symL_any hcmp (hokx u (by simp)) hoky hsy ha (by simpa using hm) hb hN hNb H
  by_cases hy1 : y.length = 1
  · obtain ⟨u, rfl⟩ := List.length_eq_one_iff.1 hy1
    exact symR_any hcmp (hoky u (by simp)) hokx hsx (by omega) ha hm (by simpa using hb) hN hNb H
  have hbN : b ≤ N := by rw [hN]; simp only [List.length_append]; omega
  have hNc : N ≤ c := by obtain ⟨_, _, e, h1, _⟩ := H.rd.shape; cases e; exact h1
  have hc2 : c ≤ 9223372036854775807 := by obtain ⟨_, _, e, _, h1⟩ := H.rd.shape; cases e; exact h1
  have hgx : ∀ (t : Nat) v, x[t]? = some v → (p ++ x ++ y ++ q)[a + t]? = some v := by
    intro t v hv
    have : p ++ x ++ y ++ q = p ++ (x ++ (y ++ q)) := by simp
    rw [this, List.getElem?_append_right (by omega), List.getElem?_append_left (by have := (List.getElem?_eq_some_iff.1 hv).1; omega)]
    rw [show a + t - p.length = t by omega]
    exact hv
  have hgy : ∀ (t : Nat) v, y[t]? = some v → (p ++ x ++ y ++ q)[m + t]? = some v := by
    intro t v hv
    have : p ++ x ++ y ++ q = (p ++ x) ++ (y ++ q) := by simp
    rw [this, List.getElem?_append_right (by rw [List.length_append]; omega), List.getElem?_append_left (by have := (List.getElem?_eq_some_iff.1 hv).1; rw [List.length_append]; omega)]
    rw [show m + t - (p ++ x).length = t by rw [List.length_append]; omega]
    exact hv
  have HGX := Lib.hid hgx
  have HGY := Lib.hid hgy
  have HP := Lib.hid ha
  have HM := Lib.hid hm
  have HB := Lib.hid hb
  have HN := Lib.hid hN
  have HC := Lib.hid hcmp
  have HOX := Lib.hid hokx
  have HOY := Lib.hid hoky
  have HSX := Lib.hid hsx
  have HSY := Lib.hid hsy
  have HF := Lib.hid hf
  have IH : Hid (SymAt w0 ps ok key B g c N f) := Lib.hid ih
  obtain ⟨L, hL⟩ : ∃ L, Hid (p ++ x ++ y ++ q = L) := ⟨_, Lib.hid rfl⟩
  rw [hL.out] at H HGX HGY
  have ham : a + 2 ≤ m := by omega
  have hmb : m + 2 ≤ b := by omega
  have hma : (((m : Int) - (a : Int)) == 1) = false := by simp; omega
  have hbm : (((b : Int) - (m : Int)) == 1) = false := by simp; omega
  obtain ⟨mid, hmid⟩ : ∃ h, Hid ((a + b) / 2 = h) := ⟨_, rfl⟩
  have hsI : (((a : Int) + (b : Int)) / 2) = (mid : Int) := by have := hmid.out; omega
  have hsU : IntKind.u64.wrap ((a : Int) + (b : Int)) = (a : Int) + (b : Int) := by simp [IntKind.wrap, IntKind.bits, IntKind.signed]; omega
  obtain ⟨n, hn⟩ : ∃ n, Hid (mid + m = n) := ⟨_, rfl⟩
  have hnI : ((mid : Int) + (m : Int)) = (n : Int) := by have := hn.out; omega
  have hmid2 : mid + mid ≤ a + b ∧ a + b ≤ mid + mid + 1 := by rw [← hmid.out]; omega
  have hmN : mid ≤ N ∧ n ≤ 2 * N := by have := hn.out; omega
  obtain ⟨hmN1, hmN2⟩ := hmN
  have hn1 : 1 ≤ n := by have := hn.out; omega
  have HMID2 := Lib.hid hmid2
  clear hmid2 ih hf hokx hoky hsx hsy ha hm hb hx0 hy0 hN hgx hgy hcmp hx1 hy1
  go_enter Try.func90, Try.ntmps90
  go_upto_if 140 with (fail)
  go_cut [20, 21] (fun s20 s21 wx => wx = w ∧ ∃ lo hi : Nat, s20 = .int .i64 lo ∧ s21 = .int .i64 hi ∧ Hid (a ≤ lo ∧ lo ≤ hi ∧ hi ≤ m ∧ (lo = a ∨ n = lo + b) ∧ (hi = m ∨ hi + m = n) ∧ (n ≤ lo + b ∧ m + hi ≤ n) ∧ ∀ c, lo ≤ c → c < hi → m + c + 1 ≤ n ∧ n ≤ b + c))
  case first =>
    have hm2 := HMID2.out
    have hn2 := hn.out
    by_cases hmm : mid < m
    · have hmmI : (mid : Int) < (m : Int) := by omega
      obtain ⟨lo, hlo⟩ : ∃ lo, n = lo + b := ⟨n - b, by omega⟩
      have hloI : ((n : Int) - (b : Int)) = (lo : Int) := by omega
      have hfacts : a ≤ lo ∧ lo ≤ mid ∧ mid ≤ m ∧ (lo = a ∨ n = lo + b) ∧ (mid = m ∨ mid + m = n) ∧ (n ≤ lo + b ∧ m + mid ≤ n) ∧ ∀ c, lo ≤ c → c < mid → m + c + 1 ≤ n ∧ n ≤ b + c := ⟨by omega, by omega, by omega, .inr hlo, .inr hn2, ⟨by omega, by omega⟩, fun c h1 h2 => ⟨by omega, by omega⟩⟩
      have HFA := Lib.hid hfacts
      clear hfacts hlo hn2 hm2
      go_wp2_with fail
      go_meet
      exact ⟨rfl, lo, mid, by go_num, rfl, HFA⟩
    · have hmmI : ¬ ((mid : Int) < (m : Int)) := by omega
      have hfacts : a ≤ a ∧ a ≤ m ∧ m ≤ m ∧ (a = a ∨ n = a + b) ∧ (m = m ∨ m + m = n) ∧ (n ≤ a + b ∧ m + m ≤ n) ∧ ∀ c, a ≤ c → c < m → m + c + 1 ≤ n ∧ n ≤ b + c := ⟨by omega, by omega, by omega, .inl rfl, .inl rfl, ⟨by omega, by omega⟩, fun c h1 h2 => ⟨by omega, by omega⟩⟩
      clear hfacts hn2 hm2
      go_wp2_with fail
      go_meet
      refine ⟨rfl, a, m, rfl, rfl, Lib.hid ?_⟩
      have hm2 := HMID2.out
      have hn2 := hn.out
      exact ⟨by omega, by omega, by omega, .inl rfl, .inl rfl, ⟨by omega, by omega⟩, fun c h1 h2 => ⟨by omega, by omega⟩⟩
  case rest =>
    obtain ⟨rfl, lo, hi, rfl, rfl, HFA⟩ := hcut
    obtain ⟨pp, hpp⟩ : ∃ pp, n = pp + 1 := ⟨n - 1, by omega⟩
    have hppI : ((n : Int) - 1) = (pp : Int) := by omega
    have HPP := Lib.hid hpp
    have hppN : pp ≤ 2 * N := by omega
    clear hpp
    go_upto_block 8 with (fail)
    go_cut [20] (fun s20 wx => ∃ s : Nat, s20 = .int .i64 s ∧ lo ≤ s ∧ s ≤ hi ∧ Hid (s = lo ∨ ∃ u v, x[s - 1 - a]? = some u ∧ y[n - s - m]? = some v ∧ key u ≤ key v) ∧ Hid (s = hi ∨ ∃ u v, x[s - a]? = some u ∧ y[n - 1 - s - m]? = some v ∧ key v < key u) ∧ Own w0 wx (slc 124 2 (.slice (some ⟨g, 0, none⟩) N c) N (rows ce L) :: ps))
    case first =>
      go_wp2_with fail
      go_loopw [20, 21] (fun s20 s21 wx => ∃ (s r : Nat), s20 = .int .i64 s ∧ s21 = .int .i64 r ∧ lo ≤ s ∧ s ≤ r ∧ r ≤ hi ∧ Hid (s = lo ∨ ∃ u v, x[s - 1 - a]? = some u ∧ y[n - s - m]? = some v ∧ key u ≤ key v) ∧ Hid (r = hi ∨ ∃ u v, x[r - a]? = some u ∧ y[n - 1 - r - m]? = some v ∧ key v < key u) ∧ Own w0 wx (slc 124 2 (.slice (some ⟨g, 0, none⟩) N c) N (rows ce L) :: ps)) (fun s20 s21 _ => (intOf s21).toNat - (intOf s20).toNat)
      case atStart => exact ⟨lo, hi, rfl, by go_num, Nat.le_refl _, HFA.out.2.1, Nat.le_refl _, Lib.hid (.inl rfl), Lib.hid (.inl rfl), H⟩
      case round =>
        clear H hppI
        obtain ⟨s, r, rfl, rfl, hls, hsr, hrh, hlo, hhi, H⟩ := hrel
        by_cases hlt : s < r
        · obtain ⟨h, hh⟩ : ∃ h, Hid ((s + r) / 2 = h) := ⟨_, rfl⟩
          have hsh : s ≤ h := by rw [← hh.out]; omega
          have hhr : h < r := by rw [← hh.out]; omega
          have hsI2 : (((s : Int) + (r : Int)) / 2) = (h : Int) := by have := hh.out; omega
          have hrm : r ≤ N := by have := HFA.out.2.2.1; omega
          have hsU2 : IntKind.u64.wrap ((s : Int) + (r : Int)) = (s : Int) + (r : Int) := by simp [IntKind.wrap, IntKind.bits, IntKind.signed]; omega
          obtain ⟨hf1, hf2⟩ := HFA.out.2.2.2.2.2.2 h (by omega) (by omega)
          obtain ⟨t, ht⟩ : ∃ t, h = a + t := ⟨h - a, by have := HFA.out.1; omega⟩
          obtain ⟨u, hu⟩ := get_of_lt (l := x) (k := t) (by have := HM.out; have := HFA.out.2.2.1; omega)
          obtain ⟨pc, hpc⟩ : ∃ pc, n = pc + 1 + h := ⟨n - 1 - h, by omega⟩
          obtain ⟨t2, ht2⟩ : ∃ t2, pc = m + t2 := ⟨pc - m, by omega⟩
          obtain ⟨v, hv⟩ := get_of_lt (l := y) (k := t2) (by have := HB.out; omega)
          have hg1 := HGX.out t u hu
          have hg2 := HGY.out t2 v hv
          rw [← ht] at hg1
          rw [← ht2] at hg2
          have HG1 := Lib.hid hg1
          have HG2 := Lib.hid hg2
          have hoku : ok u := HOX.out u (List.mem_of_getElem? hu)
          have hokv : ok v := HOY.out v (List.mem_of_getElem? hv)
          have hpcI : ((pp : Int) - (h : Int)) = (pc : Int) := by have := HPP.out; omega
          have hpcN : (pc : Int) < (N : Int) := by omega
          have hhN : (h : Int) < (N : Int) := by omega
          have hcall := fun (wz : World) (h : Own w0 wz (slc 124 2 (.slice (some ⟨g, 0, none⟩) N c) N (rows ce L) :: ps)) => HC.out wz _ h v u hokv hoku
          have hcl := cmpI_lt (key v) (key u)
          obtain ⟨cv, hcv⟩ : ∃ cv, Hid (cmpI (key v) (key u) = cv) := ⟨_, rfl⟩
          simp only [hcv.out] at hcall hcl
          have HCALL := Lib.hid hcall
          have hlo2 : ¬ key v < key u → Hid (h + 1 = lo ∨ ∃ u v, x[h + 1 - 1 - a]? = some u ∧ y[n - (h + 1) - m]? = some v ∧ key u ≤ key v) := fun hk => Lib.hid (.inr ⟨u, v, by rw [show h + 1 - 1 - a = t by omega]; exact hu, by rw [show n - (h + 1) - m = t2 by omega]; exact hv, by omega⟩)
          have hhi2 : key v < key u → Hid (h = hi ∨ ∃ u v, x[h - a]? = some u ∧ y[n - 1 - h - m]? = some v ∧ key v < key u) := fun hk => Lib.hid (.inr ⟨u, v, by rw [show h - a = t by omega]; exact hu, by rw [show n - 1 - h - m = t2 by omega]; exact hv, hk⟩)
          have HLO2 := Lib.hid hlo2
          have HHI2 := Lib.hid hhi2
          clear hlo2 hhi2 hg1 hg2 hu hv ht ht2 hcall hf1 hf2 hpc
          go_upto_region 35 with (fail)
          refine wp_region_calm (fun w1 => Own w0 w1 (slc 124 2 (.slice (some ⟨g, 0, none⟩) N c) N (rows ce L) :: ps)) 12 (by kernel_rfl) (by kernel_rfl) H.drew ?_
          simp only [List.take_succ_cons, List.take_zero, List.drop_succ_cons, List.drop_zero]
          have hpw : IntKind.i64.wrap (pc : Int) = (pc : Int) := IntWalk.i64_in _ ⟨by omega, by omega⟩
          repeat
            first
            | (refine calm_value (v := ?_) (by decide) rfl (fun σ w1 hS => ?_) ?_
               rotate_left
               · obtain ⟨c1, c1'⟩ := el hS.rd HG1.out; obtain ⟨c2, c2'⟩ := el hS.rd HG2.out
                 first | (go_simp; rfl) | rfl
               simp only [Act.put, List.setIfInBounds_toArray, List.set_cons_zero, List.set_cons_succ])
            | (refine calm_skip (by decide) rfl ?_
               simp only [Act.put, List.setIfInBounds_toArray, List.set_cons_zero, List.set_cons_succ])
          refine calm_call (v := .int .i64 cv) (by decide) rfl (fun w1 => (by go_simp; first | exact ⟨rfl, rfl⟩ | rfl)) (fun σ w1 hS => ?_) ?_
          · refine (HCALL.out w1 hS).mono ?_
            rintro e w2 ⟨_, rfl, rfl, h2⟩
            exact ⟨rfl, hS.join h2⟩
          simp only [Act.put, List.setIfInBounds_toArray, List.set_cons_zero, List.set_cons_succ]
          refine calm_nil ?_
          intro wd HD
          clear H
          by_cases hk : key v < key u
          · have hk2 : decide (cv < 0) = true := by rw [hcl]; simp [hk]
            have hn' := HHI2.out hk
            clear hk hcl HLO2
            go_wp2
            go_roundw
            case rel => exact ⟨s, h, rfl, by go_num, by omega, by omega, by omega, hlo, hn', HD⟩
            case measure => simp [intOf]; omega
          · have hk2 : decide (cv < 0) = false := by rw [hcl]; simp [hk]
            have hn' := HLO2.out hk
            clear hk hcl HHI2
            go_wp2
            go_roundw
            case rel => exact ⟨h + 1, r, by go_num, rfl, by omega, by omega, by omega, hn', hhi, HD⟩
            case measure => simp [intOf]; omega
        · have hsr2 : s = r := by omega
          subst hsr2
          clear hlt
          go_wp2
          go_meet
          exact ⟨s, rfl, hls, hrh, hlo, hhi, H⟩
    case rest =>
      clear H hppI
      obtain ⟨s, rfl, hls, hrh, hlo, hhi, H⟩ := hcut
      obtain ⟨q1, q2, q3, q4, q5, q7, q6⟩ := HFA.out
      have hm2 := HMID2.out
      have hn2 := hn.out
      have hMl := HM.out
      have hBl := HB.out
      obtain ⟨en, hen⟩ : ∃ en, n = en + s := ⟨n - s, by omega⟩
      have henb : en ≤ b := by omega
      have hmen : m ≤ en := by omega
      obtain ⟨X1, X2, hxs, hX1⟩ := split_at x (s - a) (by omega)
      obtain ⟨Y1, Y2, hys, hY1⟩ := split_at y (en - m) (by omega)
      have hX2l : s + X2.length = m := by rw [hxs, List.length_append] at hMl; omega
      have hY2l : en + Y2.length = b := by rw [hys, List.length_append] at hBl; omega
      have hA : ∀ d ∈ X2, ∀ e ∈ Y1, key e < key d := by
        intro d hd e he
        rcases hhi.out with h | ⟨u, v, hu, hv, huv⟩
        · rcases q5 with h2 | h2
          · have : X2 = [] := List.eq_nil_of_length_eq_zero (by omega)
            rw [this] at hd; simp at hd
          · have : Y1 = [] := List.eq_nil_of_length_eq_zero (by omega)
            rw [this] at he; simp at he
        · obtain ⟨i', hi', rfl⟩ := List.getElem_of_mem hd
          obtain ⟨j', hj', rfl⟩ := List.getElem_of_mem he
          have h1 : x[X1.length + i']? = some X2[i'] := by rw [hxs, List.getElem?_append_right (by omega), Nat.add_sub_cancel_left, List.getElem?_eq_getElem hi']
          have h2 : y[j']? = some Y1[j'] := by rw [hys, List.getElem?_append_left hj', List.getElem?_eq_getElem hj']
          have h3 := srt_le HSX.out hu h1 (by omega)
          have h4 := srt_le HSY.out h2 hv (by omega)
          omega
      have hB' : ∀ d ∈ X1, ∀ e ∈ Y2, key d ≤ key e := by
        intro d hd e he
        rcases hlo.out with h | ⟨u, v, hu, hv, huv⟩
        · rcases q4 with h2 | h2
          · have : X1 = [] := List.eq_nil_of_length_eq_zero (by omega)
            rw [this] at hd; simp at hd
          · have : Y2 = [] := List.eq_nil_of_length_eq_zero (by omega)
            rw [this] at he; simp at he
        · obtain ⟨i', hi', rfl⟩ := List.getElem_of_mem hd
          obtain ⟨j', hj', rfl⟩ := List.getElem_of_mem he
          have h1 : x[i']? = some X1[i'] := by rw [hxs, List.getElem?_append_left hi', List.getElem?_eq_getElem hi']
          have h2 : y[Y1.length + j']? = some Y2[j'] := by rw [hys, List.getElem?_append_right (by omega), Nat.add_sub_cancel_left, List.getElem?_eq_getElem hj']
          have h3 := srt_le HSX.out h1 hu (by omega)
          have h4 := srt_le HSY.out hv h2 (by omega)
          omega
      have hfinal : ∀ z1 z2, Mrg key X1 Y1 z1 → Mrg key X2 Y2 z2 → Mrg key x y (z1 ++ z2) := fun z1 z2 h1 h2 => by
        rw [hxs, hys]
        exact Mrg.two h1 h2 (by rw [← hxs]; exact HSX.out) (by rw [← hys]; exact HSY.out) hA hB'
      have HFINAL := Lib.hid hfinal
      have HOX1 : Hid (∀ v ∈ X1, ok v) := Lib.hid fun v hv => HOX.out v (by rw [hxs]; simp [hv])
      have HOX2 : Hid (∀ v ∈ X2, ok v) := Lib.hid fun v hv => HOX.out v (by rw [hxs]; simp [hv])
      have HOY1 : Hid (∀ v ∈ Y1, ok v) := Lib.hid fun v hv => HOY.out v (by rw [hys]; simp [hv])
      have HOY2 : Hid (∀ v ∈ Y2, ok v) := Lib.hid fun v hv => HOY.out v (by rw [hys]; simp [hv])
      have HSX1 : Hid (Srt key X1) := Lib.hid (by have := HSX.out; rw [hxs] at this; exact this.left)
      have HSX2 : Hid (Srt key X2) := Lib.hid (by have := HSX.out; rw [hxs] at this; exact this.right)
      have HSY1 : Hid (Srt key Y1) := Lib.hid (by have := HSY.out; rw [hys] at this; exact this.left)
      have HSY2 : Hid (Srt key Y2) := Lib.hid (by have := HSY.out; rw [hys] at this; exact this.right)
      have HL2 : Hid (L = p ++ X1 ++ X2 ++ Y1 ++ Y2 ++ q) := Lib.hid (by rw [← hL.out, hxs, hys]; simp)
      have HNL : Hid (N = (p ++ X1 ++ X2 ++ Y1 ++ Y2 ++ q).length) := Lib.hid (by rw [← HL2.out, ← hL.out]; exact HN.out)
      have hlens : Hid (a = p.length ∧ s = a + X1.length ∧ m = s + X2.length ∧ en = m + Y1.length ∧ b = en + Y2.length ∧ mid = s + Y1.length ∧ en = mid + X2.length ∧ X1.length + X2.length + (Y1.length + Y2.length) ≤ f + 1 ∧ 0 < X1.length + X2.length ∧ 0 < Y1.length + Y2.length) := Lib.hid (by
        have h1 := HP.out
        have h2 := HF.out
        rw [hxs, hys, List.length_append, List.length_append] at h2
        rw [hxs, List.length_append] at hMl
        rw [hys, List.length_append] at hBl
        refine ⟨h1, by omega, by omega, by omega, by omega, by omega, by omega, by omega, by omega, by omega⟩)
      have henI : ((n : Int) - (s : Int)) = (en : Int) := by omega
      have hensN : en ≤ N ∧ s ≤ N := ⟨by omega, by omega⟩
      obtain ⟨hensN1, hensN2⟩ := hensN
      have hsn : s ≤ n := by omega
      rw [HL2.out] at H
      clear q1 q2 q3 q4 q5 q6 q7 hm2 hn2 hMl hBl hen henb hmen hxs hys hX1 hY1 hX2l hY2l hA hB' hfinal hlo hhi hL hsI hnI
      apply_assumption
      exact tail_any (p := p) (q := q) (x := x) (y := y) (X1 := X1) (X2 := X2) (Y1 := Y1) (Y2 := Y2) (a := a) (m := m) (b := b) (s := s) (en := en) (mid := mid) (n := n) wc hNb IH HFINAL HOX1 HOX2 HOY1 HOY2 HSX1 HSX2 HSY1 HSY2 HNL HMID2 ham hmb hbN hlens hensN1 hensN2 hmN1 henI hsn hmN2 _ _ _ _ _ _ _ _ _ _ _ _ _ _ _ _ _ _ _ _ _ _ _ _ _ _ _ _ _ _ _ _ _ _ _ _ _ _ _ _ _ _ _ _ _ _ _ _ _ _ _ _ _ _ _ _ _ _ _ _ _ _ _ _ _ _ _ _ _ _ _ _ _ _ _ _ _ _ _ _ _ _ _ _ _ _ _ _ _ _ _ _ _ _ _ _ _ _ _ _ _ _ _ _ _ _ _ _ _ _ _ _ _ _ _ _ _ _ _ _ _ _ _ _ _ _ _ _ _ _ _ _ _ _ _ _ _ _ _ _ _ _ _ _ _ _ _ _ _ _ _ _ _ _ _ _ _ _ _ _ _ _ _ _ _ _ _ _ _ _ _ _ _ _ _ _ _ _ _ _ _ _ _ _ _ _ _ _ _ _ _ _ _ _ _ _ _ _ _ _ _ _ _ _ _ _ _ _ _ _ _ _ H
end
end SC
end Go.Proofs.Ytljejkdkjnbmhaa
/- The stable sort of slices of coins: the walk of stable. (Written by tools/srt.py.) -/
namespace Go.Proofs.Ytljejkdkjnbmhaa
open Go.RowKit
namespace SC
section
variable {w0 w : World} {ps : List Piece} {ok : Coin → Prop} {key : Coin → Int} {B : Nat}
set_option maxRecDepth 100000 in
set_option maxHeartbeats 6400000 in
theorem stable_any {g c N : Nat} {l : List Coin} (hcmp : Cmps w0 ps B ok key) (hok : ∀ x ∈ l, ok x) (hN : N = l.length) (hNb : N ≤ 1000000)
    (H : Own w0 w (slc 124 2 (.slice (some ⟨g, 0, none⟩) N c) N (rows ce l) :: ps)) :
    Calls Try.prog 87 #[.slice (some ⟨g, 0, none⟩) N c, .int .i64 N, cf B] w (Ret fun _ w' => Own w0 w' (slc 124 2 (.slice (some ⟨g, 0, none⟩) N c) N (rows ce (sortF key l)) :: ps)) := by
  have HN := Lib.hid hN
  have HC := Lib.hid hcmp
  have HOK := Lib.hid hok
  clear hN hcmp hok
  go_enter Try.func87, Try.ntmps87
  go_upto_block 0 with (fail)
  go_cut [7] (fun s7 wx => ∃ (a : Nat) (P R : List Coin), s7 = .int .i64 a ∧ a ≤ N ∧ N < a + 20 ∧ Hid (P.length = a) ∧ Hid (StEq key l (P ++ R)) ∧ Hid (FullC key 20 P) ∧ Own w0 wx (slc 124 2 (.slice (some ⟨g, 0, none⟩) N c) N (rows ce (P ++ R)) :: ps))
  case first =>
    go_wp2_with fail
    go_loopw [7, 8] (fun s7 s8 wx => ∃ (a : Nat) (P R : List Coin), s7 = .int .i64 a ∧ s8 = .int .i64 ((a : Int) + 20) ∧ a ≤ N ∧ Hid (P.length = a) ∧ Hid (StEq key l (P ++ R)) ∧ Hid (FullC key 20 P) ∧ Own w0 wx (slc 124 2 (.slice (some ⟨g, 0, none⟩) N c) N (rows ce (P ++ R)) :: ps)) (fun s7 _ _ => N - (intOf s7).toNat)
    case atStart => exact ⟨0, [], l, rfl, by go_num, by omega, Lib.hid rfl, Lib.hid (StEq.refl _), Lib.hid .nil, by simpa using H⟩
    case round =>
      clear H
      obtain ⟨a, P, R, rfl, rfl, ha, hP, hl, hF, H⟩ := hrel
      have hlen : Hid (P.length + R.length = N) := Lib.hid (by have := hl.out.length; rw [List.length_append] at this; have := HN.out; omega)
      by_cases hab : a + 20 ≤ N
      · obtain ⟨S, R2, hRs, hS⟩ := split_at R 20 (by have := hlen.out; have := hP.out; omega)
        subst hRs
        have e1 : P ++ (S ++ R2) = P ++ S ++ R2 := by simp
        rw [e1] at H
        obtain ⟨bn, hbn⟩ : ∃ bn, bn = a + 20 := ⟨_, rfl⟩
        have hbI : ((a : Int) + 20) = (bn : Int) := by omega
        have hbN : (bn : Int) ≤ (N : Int) := by omega
        have hNl : N = (P ++ S ++ R2).length := by rw [← e1, List.length_append]; exact hlen.out.symm
        have hi := insert_any (p := P) (s := S) (q := R2) (a := a) (b := bn) HC.out (fun v hv => HOK.out v (hl.out.symm.mem (by simp [hv]))) hP.out.symm (by omega) hNl hNb H
        have HI := Lib.hid hi
        have hbn2 : Hid (bn = a + 20) := Lib.hid hbn
        have hb20 : a + 20 ≤ bn := by omega
        have hbN2 : bn ≤ N := by omega
        have HS := Lib.hid hS
        clear hi hbn hNl e1 hab hlen hS
        go_wp2_with fail
        refine HI.out.mono ?_
        rintro e w3 ⟨_, rfl, s', hs', he', H3⟩
        have hsl : s'.length = 20 := by rw [← he'.length]; exact HS.out
        have hl2 : Hid (StEq key l ((P ++ s') ++ R2)) := Lib.hid (hl.out.trans (by
          have := ((StEq.refl (key := key) P).app he').app (StEq.refl R2)
          simpa using this))
        have hF2 : Hid (FullC key 20 (P ++ s')) := Lib.hid (hF.out.snoc hsl hs')
        have hP2 : Hid ((P ++ s').length = bn) := Lib.hid (by rw [List.length_append, hsl, hP.out]; exact hbn2.out.symm)
        clear HI H he' hs' hsl
        go_wp2
        go_roundw
        case rel => exact ⟨bn, P ++ s', R2, by go_num, by go_num, by omega, hP2, hl2, hF2, H3⟩
        case measure => simp [intOf]; omega
      · have hnb : ¬ ((a : Int) + 20 ≤ (N : Int)) := by omega
        go_wp2
        go_meet
        exact ⟨a, P, R, rfl, ha, by omega, hP, hl, hF, H⟩
  case rest =>
    clear H
    obtain ⟨a, P, R, rfl, ha, ha2, hP, hl, hF, H⟩ := hcut
    have hlen : Hid (P.length + R.length = N) := Lib.hid (by have := hl.out.length; rw [List.length_append] at this; have := HN.out; omega)
    have e1 : P ++ R = P ++ R ++ [] := by simp
    rw [e1] at H
    have hNl : N = (P ++ R ++ []).length := by rw [← e1, List.length_append]; exact hlen.out.symm
    have hi := insert_any (p := P) (s := R) (q := []) (a := a) (b := N) HC.out (fun v hv => HOK.out v (hl.out.symm.mem (by simp [hv]))) hP.out.symm (by have := hlen.out; have := hP.out; omega) hNl hNb H
    have HI := Lib.hid hi
    clear hi hNl e1
    go_upto_region 6 with (fail)
    go_wp2_with fail
    refine HI.out.mono ?_
    rintro e w3 ⟨_, rfl, R', hs', he', H3⟩
    have hRl : Hid (R'.length + a = N) := Lib.hid (by rw [← he'.length]; have := hlen.out; have := hP.out; omega)
    have hl2 : Hid (StEq key l (P ++ R')) := Lib.hid (hl.out.trans ((StEq.refl (key := key) P).app he'))
    rw [List.append_nil] at H3
    have HS' := Lib.hid hs'
    clear HI H he' hs' hlen hl
    go_wp2_with fail
    go_loopw [6] (fun s6 wx => ∃ (bs : Nat) (P R : List Coin), s6 = .int .i64 bs ∧ 20 ≤ bs ∧ bs ≤ 2 * N + 20 ∧ Hid (StEq key l (P ++ R)) ∧ Hid (FullC key bs P) ∧ Hid (Srt key R) ∧ Hid (R.length < bs) ∧ Own w0 wx (slc 124 2 (.slice (some ⟨g, 0, none⟩) N c) N (rows ce (P ++ R)) :: ps)) (fun s6 _ => 2 * N + 21 - (intOf s6).toNat)
    case atStart => exact ⟨20, P, R', by go_num, by omega, by omega, hl2, hF, HS', Lib.hid (by have := hRl.out; omega), H3⟩
    case round =>
      clear H3 hl2 hF HS' hRl hP ha ha2
      obtain ⟨bs, P, R, rfl, hb1, hb2, hl, hF, hS, hRb, H⟩ := hrel
      have hlen : Hid (P.length + R.length = N) := Lib.hid (by have := hl.out.length; rw [List.length_append] at this; have := HN.out; omega)
      by_cases hbN : bs < N
      · have hbNI : (bs : Int) < (N : Int) := by omega
        obtain ⟨b2, hb2'⟩ : ∃ b2, b2 = 2 * bs := ⟨_, rfl⟩
        have hb2I : (2 * (bs : Int)) = (b2 : Int) := by omega
        have hb2J : ((bs : Int) * 2) = (b2 : Int) := by omega
        have HB2 := Lib.hid hb2'
        have hb2b : bs + bs ≤ b2 ∧ b2 ≤ bs + bs := ⟨by omega, by omega⟩
        obtain ⟨hb2b1, hb2b2⟩ := hb2b
        clear hb2'
        go_upto_block 4 with (fail)
        go_cut [7] (fun s7 wx => ∃ (a : Nat) (P2 P1 : List Coin), s7 = .int .i64 a ∧ a ≤ N ∧ N < a + b2 ∧ Hid (P2.length = a) ∧ Hid (StEq key l (P2 ++ P1 ++ R)) ∧ Hid (FullC key b2 P2) ∧ Hid (FullC key bs P1) ∧ Own w0 wx (slc 124 2 (.slice (some ⟨g, 0, none⟩) N c) N (rows ce (P2 ++ P1 ++ R)) :: ps))
        case first =>
          go_wp2_with fail
          go_loopw [7, 8] (fun s7 s8 wx => ∃ (a : Nat) (P2 P1 : List Coin), s7 = .int .i64 a ∧ s8 = .int .i64 ((a : Int) + b2) ∧ a ≤ N ∧ Hid (P2.length = a) ∧ Hid (StEq key l (P2 ++ P1 ++ R)) ∧ Hid (FullC key b2 P2) ∧ Hid (FullC key bs P1) ∧ Own w0 wx (slc 124 2 (.slice (some ⟨g, 0, none⟩) N c) N (rows ce (P2 ++ P1 ++ R)) :: ps)) (fun s7 _ _ => N - (intOf s7).toNat)
          case atStart => exact ⟨0, [], P, by go_num, by go_num, by omega, Lib.hid rfl, Lib.hid (by simpa using hl.out), Lib.hid .nil, hF, by simpa using H⟩
          case round =>
            clear H hl hF
            obtain ⟨a, P2, P1, rfl, rfl, ha, hP2, hl, hF2, hF1, H⟩ := hrel
            have hlen2 : Hid (P2.length + P1.length + R.length = N) := Lib.hid (by have := hl.out.length; rw [List.length_append, List.length_append] at this; have := HN.out; omega)
            by_cases hab : a + b2 ≤ N
            · obtain ⟨x, y, r, hP1, hx, hy, hsx, hsy, hFr⟩ := hF1.out.two (by have := hlen2.out; have := hP2.out; have := hRb.out; omega)
              subst hP1
              have e1 : P2 ++ (x ++ y ++ r) ++ R = P2 ++ x ++ y ++ (r ++ R) := by simp
              rw [e1] at H
              obtain ⟨mn, hmn⟩ : ∃ mn, mn = a + bs := ⟨_, rfl⟩
              obtain ⟨bn, hbn⟩ : ∃ bn, bn = a + b2 := ⟨_, rfl⟩
              have hmI : ((a : Int) + (bs : Int)) = (mn : Int) := by omega
              have hbI : ((a : Int) + (b2 : Int)) = (bn : Int) := by omega
              have hbnN : (bn : Int) ≤ (N : Int) := by omega
              have hNl : N = (P2 ++ x ++ y ++ (r ++ R)).length := by rw [← e1]; have := hl.out.length; rw [← this]; exact HN.out
              have hokx : ∀ v ∈ x, ok v := fun v hv => HOK.out v (hl.out.symm.mem (by simp [hv]))
              have hoky : ∀ v ∈ y, ok v := fun v hv => HOK.out v (hl.out.symm.mem (by simp [hv]))
              have hi := sym_any HC.out hNb (x.length + y.length) wr P2 x y (r ++ R) a mn bn (Nat.le_refl _) hokx hoky hsx hsy hP2.out.symm (by omega) (by omega) (by omega) (by omega) hNl H
              have HI := Lib.hid hi
              have HX := Lib.hid (And.intro hx hy)
              have HFr := Lib.hid hFr
              have hbn2 : Hid (bn = a + b2) := Lib.hid hbn
              have hbnN2 : bn ≤ N := by omega
              have habn : a + b2 ≤ bn := by omega
              clear hi hmn hbn hNl e1 hab hokx hoky hsx hsy hx hy hFr hlen2
              go_wp2_with fail
              refine HI.out.mono ?_
              rintro e w4 ⟨_, rfl, z, hz, H4⟩
              have hzl : z.length = b2 := by rw [← hz.2.length, List.length_append, HX.out.1, HX.out.2]; omega
              have hl3 : Hid (StEq key l ((P2 ++ z) ++ r ++ R)) := Lib.hid (hl.out.trans (by
                have := ((StEq.refl (key := key) P2).app hz.2).app (StEq.refl (r ++ R))
                simpa using this))
              have hF3 : Hid (FullC key b2 (P2 ++ z)) := Lib.hid (hF2.out.snoc hzl hz.1)
              have hP3 : Hid ((P2 ++ z).length = bn) := Lib.hid (by rw [List.length_append, hzl, hP2.out]; exact hbn2.out.symm)
              clear HI H hz hzl
              go_wp2
              go_roundw
              case rel => exact ⟨bn, P2 ++ z, r, by go_num, by go_num, by omega, hP3, hl3, hF3, HFr, by simpa using H4⟩
              case measure => simp [intOf]; omega
            · have hnb : ¬ ((a : Int) + (b2 : Int) ≤ (N : Int)) := by omega
              go_wp2
              go_meet
              exact ⟨a, P2, P1, rfl, ha, by omega, hP2, hl, hF2, hF1, H⟩
        case rest =>
          clear H hl hF
          obtain ⟨a, P2, P1, rfl, ha, hab, hP2, hl, hF2, hF1, H⟩ := hcut
          have hlen2 : Hid (P2.length + P1.length + R.length = N) := Lib.hid (by have := hl.out.length; rw [List.length_append, List.length_append] at this; have := HN.out; omega)
          obtain ⟨mn, hmn⟩ : ∃ mn, mn = a + bs := ⟨_, rfl⟩
          have hmI : ((a : Int) + (bs : Int)) = (mn : Int) := by omega
          have HMN := Lib.hid hmn
          have hmn2 : mn ≤ 4 * N + 40 := by omega
          clear hmn
          by_cases hmN : mn < N
          · have hmNI : (mn : Int) < (N : Int) := by omega
            obtain ⟨x, r, hP1, hx, hsx, hFr⟩ := hF1.out.front (by have := hlen2.out; have := hP2.out; have := hRb.out; have := HMN.out; omega)
            have hr0 : r = [] := by
              obtain ⟨q, hq⟩ := hFr.len
              have h1 := hlen2.out; have h2 := hP2.out
              rw [hP1, List.length_append] at h1
              rcases Nat.eq_zero_or_pos q with h | h
              · subst h; exact List.eq_nil_of_length_eq_zero (by omega)
              · have := Nat.mul_le_mul_right bs h; omega
            subst hr0
            rw [List.append_nil] at hP1
            subst hP1
            have e1 : P2 ++ P1 ++ R = P2 ++ P1 ++ R ++ [] := by simp
            rw [e1] at H
            have hNl : N = (P2 ++ P1 ++ R ++ []).length := by rw [← e1]; have := hl.out.length; rw [← this]; exact HN.out
            have hi := sym_any HC.out hNb (P1.length + R.length) wc P2 P1 R [] a mn N (Nat.le_refl _) (fun v hv => HOK.out v (hl.out.symm.mem (by simp [hv]))) (fun v hv => HOK.out v (hl.out.symm.mem (by simp [hv]))) hsx hS.out hP2.out.symm (by have := HMN.out; omega) (by have := hlen2.out; have := hP2.out; have := HMN.out; omega) (by omega) (by have := hlen2.out; have := hP2.out; have := HMN.out; omega) hNl H
            have HI := Lib.hid hi
            clear hi hNl e1 hsx hFr
            go_wp2_with fail
            refine HI.out.mono ?_
            rintro e w4 ⟨_, rfl, z, hz, H4⟩
            have hzl : Hid (z.length < b2) := Lib.hid (by rw [← hz.2.length, List.length_append, hx]; have := hRb.out; omega)
            have hl3 : Hid (StEq key l (P2 ++ z)) := Lib.hid (hl.out.trans (by
              have := (StEq.refl (key := key) P2).app hz.2
              simpa using this))
            have hzs : Hid (Srt key z) := Lib.hid hz.1
            rw [List.append_nil] at H4
            clear HI H hz hx
            go_wp2
            go_roundw
            case rel => exact ⟨b2, P2, z, by go_num, by omega, by omega, hl3, hF2, hzs, hzl, H4⟩
            case measure => simp [intOf]; omega
          · have hmNI : ¬ ((mn : Int) < (N : Int)) := by omega
            have hsrt : Hid (Srt key (P1 ++ R)) := Lib.hid (by
              rcases hF1.out.one (by have := hlen2.out; have := hP2.out; have := HMN.out; omega) (by omega) with h | ⟨h, hs⟩
              · rw [h]; exact hS.out
              · have : R = [] := List.eq_nil_of_length_eq_zero (by have := hlen2.out; have := hP2.out; have := HMN.out; omega)
                rw [this, List.append_nil]; exact hs)
            have hl3 : Hid (StEq key l (P2 ++ (P1 ++ R))) := Lib.hid (by simpa using hl.out)
            have hzl : Hid ((P1 ++ R).length < b2) := Lib.hid (by rw [List.length_append]; have := hlen2.out; have := hP2.out; omega)
            rw [List.append_assoc] at H
            clear hmN
            go_wp2
            go_roundw
            case rel => exact ⟨b2, P2, P1 ++ R, by go_num, by omega, by omega, hl3, hF2, hsrt, hzl, H⟩
            case measure => simp [intOf]; omega
      · have hsrt : Hid (P ++ R = sortF key l) := Lib.hid (by
          refine sortF_unique ?_ hl.out
          rcases hF.out.one (by have := hlen.out; omega) (by omega) with h | ⟨h, hs⟩
          · rw [h]; exact hS.out
          · have : R = [] := List.eq_nil_of_length_eq_zero (by have := hlen.out; omega)
            rw [this, List.append_nil]; exact hs)
        have hnb : ¬ ((bs : Int) < (N : Int)) := by omega
        clear hbN
        go_wp2
        go_end0
        exact ⟨_, rfl, by rw [← hsrt.out]; exact H⟩
end
end SC
end Go.Proofs.Ytljejkdkjnbmhaa
/- huff: the walks of what compares. -/
namespace Go.Proofs.Ytljejkdkjnbmhaa
open Go.RowKit

theorem nan_any (a : Int) (w : World) : Calls Try.prog 81 #[.int .i64 a] w fun e w' => e = .returned (.bool false) ∧ w' = w := by
  go_enter Try.func81, Try.ntmps81
  go_wp2
  go_ret
  exact ⟨by simp, rfl⟩
theorem compare_any (a b : Int) (w : World) : Calls Try.prog 74 #[.int .i64 a, .int .i64 b] w fun e w' => e = .returned (.int .i64 (cmpI a b)) ∧ w' = w := by
  go_enter Try.func74, Try.ntmps74
  go_wp2_with fail
  refine (nan_any a w).mono ?_
  rintro e w1 ⟨rfl, rfl⟩
  go_wp2_with fail
  refine (nan_any b _).mono ?_
  rintro e w1 ⟨rfl, rfl⟩
  by_cases h1 : a < b
  · have e : Hid (cmpI a b = -1) := Lib.hid (by simp [cmpI, h1])
    go_wp2
    go_ret
    exact ⟨by rw [e.out]; rfl, rfl⟩
  · by_cases h2 : b < a
    · have e : Hid (cmpI a b = 1) := Lib.hid (by simp [cmpI, h1, h2])
      go_wp2
      go_ret
      exact ⟨by rw [e.out]; rfl, rfl⟩
    · have e : Hid (cmpI a b = 0) := Lib.hid (by simp [cmpI, h1, h2])
      go_wp2
      go_ret
      exact ⟨by rw [e.out]; rfl, rfl⟩

/-- Coins are compared by their weights. -/
theorem lighter_any (w0 : World) (ps : List Piece) (B : Nat) : SC.Cmps w0 ps B (fun _ => True) Coin.w := by
  intro wz row _ x y _ _
  unfold SC.cg SC.ca
  obtain ⟨c, hc⟩ : ∃ c, Hid (cmpI x.w y.w = c) := ⟨_, rfl⟩
  rw [hc.out]
  have H := (Own.start wz).alloc2 (.cells #[.int .i64 x.w, .bool x.pair] 124) (.cells #[.int .i64 y.w, .bool y.pair] 124)
  unfold cval
  go_enter Try.func84, Try.ntmps84
  go_wp2_with fail
  refine (compare_any x.w y.w _).mono ?_
  rintro e w1 ⟨rfl, rfl⟩
  rw [hc.out]
  go_wp2
  go_ret
  exact ⟨_, rfl, rfl, H.bare⟩
end Go.Proofs.Ytljejkdkjnbmhaa
/- huff: the closure that compares symbols by their frequencies; the sorts. -/
namespace Go.Proofs.Ytljejkdkjnbmhaa
open Go.RowKit

theorem byfreq_any {w0 : World} {ps : List Piece} {B n : Nat} {F : List Int} {v : Value} (hr : Rd w0 1 v n (nums F)) (hn : n ≤ 1000000) : SI.Cmps w0 (blk B (.cells #[v] 30) :: ps) B (fun x => 0 ≤ x ∧ x < F.length) (frq F) := by
  intro wz row H x y hx hy
  unfold SI.cg SI.ca
  obtain ⟨hx0, hx1⟩ := hx
  obtain ⟨hy0, hy1⟩ := hy
  obtain ⟨i, rfl⟩ : ∃ i : Nat, x = i := ⟨x.toNat, by omega⟩
  obtain ⟨j, rfl⟩ : ∃ j : Nat, y = j := ⟨y.toNat, by omega⟩
  have hl : F.length = n := by have := hr.len; rw [nums_length] at this; omega
  obtain ⟨b, o, cp, rfl, hc1, hc2⟩ := hr.some (by rw [nums_length]; omega)
  have hz := hr.old H
  have gi : F[i]? = some (frq F i) := by
    unfold frq
    rw [List.getElem?_eq_getElem (by omega)]
    simp [List.getD, show i < F.length by omega]
  have gj : F[j]? = some (frq F j) := by
    unfold frq
    rw [List.getElem?_eq_getElem (by omega)]
    simp [List.getD, show j < F.length by omega]
  have r0 := hz.cell (nums_get gi)
  have r1 := hz.cell (nums_get gj)
  generalize frq F i = fi at *
  generalize frq F j = fj at *
  obtain ⟨c, hc⟩ : ∃ c, Hid (cmpI fi fj = c) := ⟨_, rfl⟩
  rw [hc.out]
  have hiI : (i : Int) < (n : Int) := by omega
  have hjI : (j : Int) < (n : Int) := by omega
  have hR : ∀ (ps' : List Piece) (w' : World), Own wz w' ps' → w'.cell? ⟨b, o + i, none⟩ = some (.int .i64 fi) ∧ w'.cell? ⟨b, o + j, none⟩ = some (.int .i64 fj) := fun _ w' h => ⟨(hz.old h).cell (nums_get gi), (hz.old h).cell (nums_get gj)⟩
  have cB := (H.front 1 rfl).cells
  have hB : ∀ (ps' : List Piece) (w' : World), Own wz w' ps' → w'.cell? ⟨B, 0, none⟩ = some (.slice (some ⟨b, o, none⟩) n cp) := fun _ w' h => by
    rw [h.oldCell (cell_lt (by rw [cB]; rfl)), cB]; rfl
  have HR := Lib.hid hR
  have HB := Lib.hid hB
  clear hR hB
  have H1 := Own.start wz
  clear r0 r1 gi gj hr hl hx1 hy1 cB
  go_enter Try.func73, Try.ntmps73
  go_upto_region 1 with (fail)
  refine wp_region_calm (fun w1 => Own wz w1 []) 8 (by kernel_rfl) (by kernel_rfl) H1.drew ?_
  simp only [List.take_succ_cons, List.take_zero, List.drop_succ_cons, List.drop_zero]
  repeat
    first
    | (refine calm_value (v := ?_) (by decide) rfl (fun σ w1 hS => ?_) ?_
       rotate_left
       · have c0 := HB.out _ _ hS; obtain ⟨c1, c2⟩ := HR.out _ _ hS
         first | (go_simp; rfl) | rfl
       simp only [Act.put, List.setIfInBounds_toArray, List.set_cons_zero, List.set_cons_succ])
    | (refine calm_skip (by decide) rfl ?_
       simp only [Act.put, List.setIfInBounds_toArray, List.set_cons_zero, List.set_cons_succ])
  refine calm_nil ?_
  intro wd HD
  go_wp2_with fail
  refine (compare_any fi fj _).mono ?_
  rintro e w1 ⟨rfl, rfl⟩
  rw [hc.out]
  go_wp2
  go_ret
  exact ⟨_, rfl, rfl, HD⟩
end Go.Proofs.Ytljejkdkjnbmhaa
/- huff: the walks of the sorts, of Clone, row and counted. -/
namespace Go.Proofs.Ytljejkdkjnbmhaa
open Go.RowKit

theorem coinInfo : (Try.prog.info? 124).map (fun i => (i.zero, i.size, i.bytes)) = some (some (.agg #[.int .i64 0, .bool false]), 2, 16) := by kernel_rfl
theorem rows_ie (l : List Int) : rows SI.ie l = nums l := by
  induction l with
  | nil => rfl
  | cons x t ih => rw [rows_cons, ih]; rfl

/-! ### nil -/
theorem insert_nil (cmp : Value) (w : World) : Calls Try.prog 85 #[.slice none 0 0, .int .i64 0, .int .i64 0, cmp] w (Ret fun _ w' => Own w w' []) := by
  have H := Own.start w
  go_enter Try.func85, Try.ntmps85
  go_wp2_with fail
  go_loop [8] (fun s8 => s8 = .int .i64 1) (fun _ => 0)
  case atStart => go_num
  case round =>
    obtain rfl := hrel
    go_wp2
    go_end0
    exact ⟨_, rfl, H⟩
theorem stable_nil (cmp : Value) (w : World) : Calls Try.prog 80 #[.slice none 0 0, .int .i64 0, cmp] w (Ret fun _ w' => Own w w' []) := by
  have H := Own.start w
  go_enter Try.func80, Try.ntmps80
  go_wp2_with fail
  go_loop [7, 8] (fun s7 s8 => s7 = .int .i64 0 ∧ s8 = .int .i64 20) (fun _ _ => 0)
  case atStart => exact ⟨by go_num, by go_num⟩
  case round =>
    obtain ⟨rfl, rfl⟩ := hrel
    go_wp2_with fail
    refine (insert_nil cmp _).mono ?_
    rintro e w1 ⟨_, rfl, H1⟩
    go_wp2_with fail
    go_loop [6] (fun s6 => s6 = .int .i64 20) (fun _ => 0)
    case atStart => go_num
    case round =>
      obtain rfl := hrel
      go_wp2
      go_end0
      exact ⟨_, rfl, H1⟩
theorem sortnil_any (cmp : Value) (w : World) : Calls Try.prog 72 #[.slice none 0 0, cmp] w (Ret fun _ w' => Own w w' []) := by
  go_enter Try.func72, Try.ntmps72
  go_wp2_with fail
  refine (stable_nil cmp w).mono ?_
  rintro e w1 ⟨_, rfl, H1⟩
  go_wp2
  go_end0
  exact ⟨_, rfl, H1⟩

/-! ### the sorts -/
theorem sortI_any {w0 w : World} {ps : List Piece} {g c N B n : Nat} {l F : List Int} {v : Value} (hr : Rd w0 1 v n (nums F)) (hn : n ≤ 1000000) (hok : ∀ x ∈ l, 0 ≤ x ∧ x < F.length) (hN : N = l.length) (hNb : N ≤ 1000000)
    (H : Own w0 w (slc 3 1 (.slice (some ⟨g, 0, none⟩) N c) N (rows SI.ie l) :: blk B (.cells #[v] 30) :: ps)) :
    Calls Try.prog 72 #[.slice (some ⟨g, 0, none⟩) N c, SI.cf B] w (Ret fun _ w' => Own w0 w' (slc 3 1 (.slice (some ⟨g, 0, none⟩) N c) N (rows SI.ie (sortF (frq F) l)) :: blk B (.cells #[v] 30) :: ps)) := by
  have HS := Lib.hid (SI.stable_any (byfreq_any hr hn) hok hN hNb H)
  clear hr hok H hN
  go_enter Try.func72, Try.ntmps72
  go_wp2_with fail
  refine HS.out.mono ?_
  rintro e w1 ⟨_, rfl, H1⟩
  go_wp2
  go_end0
  exact ⟨_, rfl, H1⟩
theorem sortC_any {w0 w : World} {ps : List Piece} {g c N : Nat} {l : List Coin} (hN : N = l.length) (hNb : N ≤ 1000000)
    (H : Own w0 w (slc 124 2 (.slice (some ⟨g, 0, none⟩) N c) N (rows ce l) :: ps)) :
    Calls Try.prog 83 #[.slice (some ⟨g, 0, none⟩) N c, SC.cf 0] w (Ret fun _ w' => Own w0 w' (slc 124 2 (.slice (some ⟨g, 0, none⟩) N c) N (rows ce (sortF Coin.w l)) :: ps)) := by
  have HS := Lib.hid (SC.stable_any (B := 0) (lighter_any w0 ps 0) (fun _ _ => trivial) hN hNb H)
  clear H hN
  go_enter Try.func83, Try.ntmps83
  go_wp2_with fail
  refine HS.out.mono ?_
  rintro e w1 ⟨_, rfl, H1⟩
  go_wp2
  go_end0
  exact ⟨_, rfl, H1⟩

theorem rows_ce_one (l : List Coin) : ∀ u ∈ rows ce l, u.oneCell' = true := by
  intro u hu
  obtain ⟨x, _, hx⟩ := List.mem_flatMap.1 hu
  exact SC.e_one x u hx
/-- A copy. -/
theorem clone_any {w : World} {v : Value} {n : Nat} {l : List Coin} (hr : Rd w 2 v n (rows ce l)) (hl : 0 < l.length) (hn : n ≤ 1000000) :
    Calls Try.prog 82 #[v] w (Ret fun r w' => Own w w' [slc 124 2 r n (rows ce l)]) := by
  have hlen : 0 < (rows ce l).length := by rw [rows_length ce SC.e_length]; omega
  obtain ⟨b, o, c, rfl, hc1, hc2⟩ := hr.some hlen
  have H := (Own.start w).made [] 124 2 0 (by simp) (by simp [maxLen])
  have hr2 := hr.old H
  have h1 := rows_ce_one l
  generalize rows ce l = xs at *
  have HR := Lib.hid hr2
  have H1 := Lib.hid h1
  clear hr hr2 h1 hlen
  have hnil : ∀ W, (binOp .eql 122 (.slice (some ⟨b, o, none⟩) n c) (.slice none 0 0)).run Try.prog W = .ok (.bool false) W := fun W => Lib.run_eql_slice_some_nil W _ _ _ Try.underlying122
  go_enter Try.func82, Try.ntmps82
  go_wp2_with (at_builtin; refine wpList_append_sep rfl _ _ rfl Try.underlying122 coinInfo rfl (by decide) rfl H HR.out H1.out (by omega) (by omega) ?_; clear H; intro v' w' H)
  go_ret
  refine ⟨_, rfl, ?_⟩
  simpa using H

theorem rows_pair_cells (a b : Coin) (t : List Coin) : rows ce (a :: b :: t) = [.int .i64 a.w, .bool a.pair, .int .i64 b.w, .bool b.pair] ++ rows ce t := rfl
/-- Two elements on. -/
theorem rd_tail2 {w : World} {b o cap n : Nat} {c1 c2 : Coin} {t : List Coin} (h : Rd w 2 (.slice (some ⟨b, o, none⟩) (n + 2) cap) (n + 2) (rows ce (c1 :: c2 :: t))) :
    Rd w 2 (.slice (if cap = 2 then some ⟨b, o, none⟩ else some ⟨b, o + 4, none⟩) n (cap - 2)) n (rows ce t) := by
  have h1 := h.tail (k := 2) (by omega)
  by_cases hc : cap = 2
  · subst hc
    obtain ⟨hl, a, c, e, hle, _⟩ := h
    cases e
    have hn : n = 0 := by omega
    subst hn
    have hx : rows ce t = [] := by
      refine List.eq_nil_of_length_eq_zero ?_
      rw [rows_pair_cells, List.length_append] at hl
      simp at hl
      simpa using hl
    rw [hx]
    exact ⟨by simp, _, _, rfl, by omega, by simp [maxLen], by simp, fun ad _ j u hu => by simp at hu⟩
  · have e : (rows ce (c1 :: c2 :: t)).drop (2 * 2) = rows ce t := by rw [rows_drop ce SC.e_length]; rfl
    rw [e] at h1
    simpa [hc, Addr.add] using h1

set_option maxRecDepth 100000 in
set_option maxHeartbeats 1600000 in
/-- A row. -/
theorem row_any {w : World} {v u : Value} {n m : Nat} {base A : List Coin} (hr : Rd w 2 v n (rows ce base)) (hu : Rd w 2 u m (rows ce A)) (hl : 0 < base.length) (hn : n ≤ 1000) (hm : m ≤ 1000)
    (hA : ∀ c ∈ A, 0 ≤ c.w ∧ c.w ≤ 1000000000000000000) :
    Calls Try.prog 75 #[v, u] w (Ret fun r w' => Own w w' [slc 124 2 r (rowF base A).length (rows ce (rowF base A))]) := by
  have HC := Lib.hid (clone_any hr hl (by omega))
  have hbn : Hid (base.length = n) := Lib.hid (by have := hr.len; rw [rows_length ce SC.e_length] at this; omega)
  have hlm : A.length = m := by have := hu.len; rw [rows_length ce SC.e_length] at this; omega
  clear hr
  have HL := Lib.hid hl
  clear hl
  go_enter Try.func75, Try.ntmps75
  go_wp2_with fail
  refine HC.out.mono ?_
  rintro e w1 ⟨r, rfl, H⟩
  clear HC
  have HU := Lib.hid hu
  have HA := Lib.hid hA
  obtain ⟨M, hP⟩ : ∃ M, Hid (base ++ pairsF A = M) := ⟨_, rfl⟩
  have hPM := hP
  have hn2 : n + m / 2 ≤ 2000 := by omega
  go_wp2_with fail
  clear hu hA
  go_loopw [1, 5] (fun s1 s5 wx => ∃ (k q : Nat) (B P : List Coin), Hid (Rd w 2 s1 k (rows ce B)) ∧ Hid (B.length = k) ∧ k ≤ 1000 ∧ q + k / 2 ≤ 2000 ∧ Hid (P ++ pairsF B = M) ∧ Hid (∀ c ∈ B, 0 ≤ c.w ∧ c.w ≤ 1000000000000000000) ∧ Hid (P.length = q) ∧ Own w wx [slc 124 2 s5 q (rows ce P)]) (fun s1 _ _ => sliceLen s1)
  case atStart => exact ⟨m, n, A, base, HU, Lib.hid hlm, hm, hn2, hP, HA, hbn, H⟩
  case round =>
    clear H HU HA hP hn2 hn hm hlm hbn
    obtain ⟨k, q, B, P, HU, hB, hk, hq, hP, HA, hPl, H⟩ := hrel
    by_cases h2 : 2 ≤ k
    · obtain ⟨c1, c2, t, rfl⟩ : ∃ (c1 c2 : Coin) (t : List Coin), B = c1 :: c2 :: t := by
        match B, hB.out with
        | [], h => simp at h; omega
        | [_], h => simp at h; omega
        | c1 :: c2 :: t, _ => exact ⟨c1, c2, t, rfl⟩
      obtain ⟨k, rfl⟩ : ∃ k', k = k' + 2 := ⟨k - 2, by omega⟩
      have hu := HU.out
      obtain ⟨b, o, c, rfl, hc1, hc2⟩ := hu.some (by rw [rows_length ce SC.e_length]; simp)
      have g1 : ∀ (ps' : List Piece) (w' : World), Own w w' ps' → w'.cell? ⟨b, o, none⟩ = some (.int .i64 c1.w) ∧ w'.cell? ⟨b, o + 2, none⟩ = some (.int .i64 c2.w) := fun _ w' h => by
        have h := hu.old h
        exact And.intro (h.cell (j := 0) rfl) (h.cell (j := 2) rfl)
      have G1 := Lib.hid g1
      have HU2 := Lib.hid (rd_tail2 hu)
      have hB2 : Hid (t.length = k) := Lib.hid (by have := hB.out; simp at this; omega)
      have HA2 : Hid (∀ c ∈ t, 0 ≤ c.w ∧ c.w ≤ 1000000000000000000) := Lib.hid (fun c hc => HA.out c (by simp [hc]))
      have hP2 : Hid ((P ++ [(⟨c1.w + c2.w, true⟩ : Coin)]) ++ pairsF t = M) := Lib.hid (by rw [← hP.out, pairsF, List.append_assoc]; rfl)
      have hPl2 : Hid ((P ++ [(⟨c1.w + c2.w, true⟩ : Coin)]).length = q + 1) := Lib.hid (by rw [List.length_append, hPl.out]; rfl)
      have b1 := HA.out c1 (by simp)
      have b2 := HA.out c2 (by simp)
      have hrow0 : rows ce P ++ ce ⟨c1.w + c2.w, true⟩ = rows ce (P ++ [⟨c1.w + c2.w, true⟩]) := by rw [rows_append, rows_one]
      have HR0 := Lib.hid hrow0
      clear hu g1 HU hB HA hP hPl hrow0
      generalize c1.w = x1 at *
      generalize c2.w = x2 at *
      obtain ⟨s, hs⟩ : ∃ s, Hid (x1 + x2 = s) := ⟨_, rfl⟩
      have hsw : IntKind.i64.wrap (x1 + x2) = s := by rw [← hs.out]; exact IntWalk.i64_in _ ⟨by omega, by omega⟩
      rw [hs.out] at hP2 hPl2 HR0
      have hcc : ((k : Int) + 2 ≤ (c : Int)) := by omega
      have hk0 : (0 : Int) < (k : Int) + 2 := by omega
      have hk1 : (1 : Int) < (k : Int) + 2 := by omega
      go_upto_region 4 with (fail)
      refine wp_region_new (fun σ w1 => Own w w1 (newR (.cells #[.int .i64 s, .bool true] 124) 1 (σ 11) ++ (slc 124 2 u5 q (rows ce P) :: []))) 12 [11] (by kernel_rfl) (by kernel_rfl) H.drew ?_
      simp only [List.take_succ_cons, List.take_zero, List.drop_succ_cons, List.drop_zero]
      repeat
        first
        | (refine calm_value (v := ?_) (by decide) rfl (fun σ w1 hS => ?_) ?_
           rotate_left
           · obtain ⟨c0, c1⟩ := G1.out _ _ hS
             first | (go_simp; rfl) | rfl
           simp only [Act.put, List.setIfInBounds_toArray, List.set_cons_zero, List.set_cons_succ])
        | (refine calm_skip (by decide) rfl ?_
           simp only [Act.put, List.setIfInBounds_toArray, List.set_cons_zero, List.set_cons_succ])
      refine calm_row (by decide) (fun w1 => (by go_simp)) ?_
      refine calm_nil ?_
      intro σ wd hσ HD
      obtain ⟨vn, hvn⟩ := Option.isSome_iff_exists.1 (hσ 11 (by decide))
      rw [hvn] at HD
      obtain ⟨g2, rfl, HN⟩ := HD.newr
      clear HD H
      simp only [putNew, List.foldl_cons, List.foldl_nil, hvn]
      simp only [Act.put, List.setIfInBounds_toArray, List.set_cons_zero, List.set_cons_succ, List.getElem?_cons_succ, List.getElem?_cons_zero, Option.bind_some, Option.getD_some]
      have hrow := (HN.slc_mk (xs := ce ⟨s, true⟩) (n := 1) (size := 2) rfl (Nat.le_refl _) (by decide) rfl rfl).rd
      have H := HN.drop
      clear HN
      go_wp2_with (at_builtin; refine wpList_append_sep rfl _ _ rfl Try.underlying122 coinInfo rfl (by decide) rfl H hrow (SC.e_one _) (by omega) (by omega) ?_; clear H hrow; intro v' w' H; rw [HR0.out] at H)
      go_roundw
      case rel => exact ⟨k, q + 1, t, P ++ [⟨s, true⟩], HU2, hB2, by omega, by omega, hP2, HA2, hPl2, H⟩
      case measure => simp [sliceLen]
    · have hB0 : pairsF B = [] := List.eq_nil_of_length_eq_zero (by rw [pairsF_length, hB.out]; omega)
      have hPM2 : P = M := by rw [← hP.out, hB0, List.append_nil]
      subst hPM2
      have hq1 : 0 < q := by rw [← hPl.out, ← hPM.out, List.length_append]; have := HL.out; omega
      obtain ⟨a, cp, rfl, hc1, hc2⟩ := HU.out.shape
      obtain ⟨g, c, rfl, hd1, hd2, _⟩ := H.at (by rw [rows_length ce SC.e_length, hPl.out]; omega)
      have HS := Lib.hid (sortC_any hPl.out.symm (by omega) H)
      have hkI : ¬ (2 : Int) ≤ (k : Int) := by omega
      have hR : Hid (sortF Coin.w P = rowF base A) := Lib.hid (by rw [← hPM.out]; rfl)
      have hRl : Hid ((rowF base A).length = q) := Lib.hid (by rw [← hR.out, ← (sortF_law P).2.length, hPl.out])
      clear HU hB hB0 hP HA hPl H HL hPM h2
      go_wp2_with fail
      refine HS.out.mono ?_
      rintro e w2 ⟨_, rfl, H2⟩
      rw [hR.out] at H2
      go_wp2
      go_ret
      exact ⟨_, rfl, by rw [hRl.out]; exact H2⟩

set_option maxHeartbeats 800000 in
/-- How many pairs are among the first so many. -/
theorem counted_any {w : World} {v : Value} {n k : Nat} {l : List Coin} (hr : Rd w 2 v n (rows ce l)) (hn : n ≤ 1000000) (hk : k ≤ n) :
    Calls Try.prog 76 #[v, .int .i64 k] w (Ret fun r w' => r = .tuple #[.int .i64 ((k - npF l k : Nat) : Int), .int .i64 (npF l k)] ∧ Own w w' []) := by
  have hln : l.length = n := by have := hr.len; rw [rows_length ce SC.e_length] at this; omega
  have hle := npF_le l k
  obtain ⟨Z, hZ⟩ : ∃ Z, Hid (npF l k = Z) := ⟨_, rfl⟩
  rw [hZ.out] at hle ⊢
  obtain ⟨a, c, rfl, hc1, hc2⟩ := hr.shape
  have HR := Lib.hid hr
  have hl := Lib.hid hln
  have H := Own.start w
  clear hr hln
  go_enter Try.func76, Try.ntmps76
  go_wp2_with fail
  go_loopw [6, 13] (fun s6 s13 wx => ∃ i : Nat, s13 = .int .i64 i ∧ i ≤ k ∧ s6 = .int .i64 (npF l i) ∧ Own w wx []) (fun _ s13 _ => k - (intOf s13).toNat)
  case atStart => exact ⟨0, by go_num, by omega, by simp [npF], H⟩
  case round =>
    clear H
    obtain ⟨i, rfl, hi, rfl, H⟩ := hrel
    have hpl := npF_le l i
    by_cases hlt : i < k
    · obtain ⟨x, hx⟩ := get_of_lt (l := l) (k := i) (by have := hl.out; omega)
      have hp : npF l (i + 1) = npF l i + if x.pair then 1 else 0 := by
        unfold npF
        rw [List.take_add_one, hx, List.countP_append]
        simp
      obtain ⟨y, hy⟩ : ∃ y, Hid (npF l i = y) := ⟨_, rfl⟩
      have HP := Lib.hid hp
      have hr := HR.out
      obtain ⟨b, o, c', he, _⟩ := hr.some (by rw [rows_length ce SC.e_length]; have := hl.out; omega)
      cases he
      have hr2 := (HR.out.old H)
      have g0 : wr.cell? ⟨b, o + i * 2, none⟩ = some (.int .i64 x.w) := by
        have := hr2.cell ((rows_get ce SC.e_length hx 0 (by omega)).trans rfl)
        simpa using this
      have g1 : wr.cell? ⟨b, o + (i * 2 + 1), none⟩ = some (.bool x.pair) := hr2.cell ((rows_get ce SC.e_length hx 1 (by omega)).trans rfl)
      have g2 : wr.cell? ⟨b, o + i * 2 + 1, none⟩ = some (.bool x.pair) := g1
      have hI : (i : Int) < (k : Int) := by omega
      clear hp hr hr2 hx
      obtain ⟨xw, xp⟩ := x
      simp only at g0 g1 g2 HP
      obtain ⟨gc, hgc⟩ : ∃ gc, Hid (wr.heap.size = gc) := ⟨_, rfl⟩
      rw [hy.out] at HP hpl ⊢
      cases xp
      all_goals
        go_wp2_with (refine wpList_store_agg rfl _ _ rfl rfl (H.alloc _) rfl (by kernel_rfl) (by simp) (by simp; exact ⟨rfl, rfl⟩) rfl ?_; clear H; intro w5 H; rw [hgc.out] at H ⊢; have c0 := H.cells)
        go_roundw
        case rel => exact ⟨i + 1, by go_num, by omega, by rw [HP.out]; simp, H.bare⟩
        case measure => simp [intOf]; omega
    · obtain rfl : i = k := by omega
      have hz := hZ.out
      rw [hz] at hpl ⊢
      have hw : IntKind.i64.wrap ((i : Int) - (Z : Int)) = ((i - Z : Nat) : Int) := by rw [IntWalk.i64_in _ ⟨by omega, by omega⟩]; omega
      clear hz
      go_wp2
      go_ret2
      exact ⟨_, rfl, rfl, H⟩
end Go.Proofs.Ytljejkdkjnbmhaa
/- huff: the walks of what may not be counted. -/
namespace Go.Proofs.Ytljejkdkjnbmhaa
open Go.RowKit

/-- The first that may not be, from the i-th on. -/
theorem bad_any (f : Int) (w : World) : Calls Try.prog 70 #[.int .i64 f] w fun e w' => e = .returned (.bool (badF f)) ∧ w' = w := by
  obtain ⟨b, hb⟩ : ∃ b, Hid (badF f = b) := ⟨_, rfl⟩
  rw [hb.out]
  go_enter Try.func70, Try.ntmps70
  by_cases h1 : f < 0
  · have e : Hid (b = true) := Lib.hid (by rw [← hb.out]; simp [badF, h1])
    go_wp2
    go_ret
    exact ⟨by rw [e.out]; rfl, rfl⟩
  · by_cases h2 : 4294967296 < f
    · have e : Hid (b = true) := Lib.hid (by rw [← hb.out]; simp [badF, h2])
      go_wp2
      go_ret
      exact ⟨by rw [e.out]; rfl, rfl⟩
    · have e : Hid (b = false) := Lib.hid (by rw [← hb.out]; simp [badF]; omega)
      go_wp2
      go_ret
      exact ⟨by rw [e.out]; rfl, rfl⟩


theorem index_any {w : World} {v : Value} {n : Nat} {F : List Int} (hr : Rd w 1 v n (nums F)) (hn : n ≤ 1000000) :
    Calls Try.prog 79 #[v, .func (.func 70) #[] #[]] w (Ret fun r w' => (∃ x : Int, r = .int .i64 x ∧ (0 ≤ x ↔ anyBad F = true) ∧ -1 ≤ x ∧ x ≤ 1000000) ∧ Own w w' []) := by
  have hl : F.length = n := by have := hr.len; rw [nums_length] at this; omega
  obtain ⟨a, c, rfl, hc1, hc2⟩ := hr.shape
  have HR := Lib.hid hr
  have HL := Lib.hid hl
  have H := Own.start w
  clear hr hl
  go_enter Try.func79, Try.ntmps79
  go_wp2_with fail
  go_loopw [8] (fun s8 wx => ∃ i : Nat, s8 = .int .i64 i ∧ i ≤ n ∧ Hid (∀ j, j < i → badF (F.getD j 0) = false) ∧ Own w wx []) (fun s8 _ => n - (intOf s8).toNat)
  case atStart => exact ⟨0, by go_num, by omega, Lib.hid (fun j h => by omega), H⟩
  case round =>
    clear H
    obtain ⟨i, rfl, hi, hno, H⟩ := hrel
    by_cases hlt : i < n
    · obtain ⟨b, o, rfl, c0⟩ := rd_num HR.out H (by have := HL.out; omega : i < F.length) rfl
      obtain ⟨x, hx⟩ : ∃ x, Hid (F.getD i 0 = x) := ⟨_, rfl⟩
      rw [hx.out] at c0
      have hI : (i : Int) < (n : Int) := by omega
      obtain ⟨bx, hbx⟩ : ∃ bx, Hid (badF x = bx) := ⟨_, rfl⟩
      go_wp2_with fail
      refine (bad_any x _).mono ?_
      rintro e w1 ⟨rfl, rfl⟩
      rw [hbx.out]
      cases bx with
      | true =>
        go_wp2
        go_ret
        refine ⟨_, rfl, ⟨_, rfl, ?_, by omega, by omega⟩, H⟩
        constructor
        · intro _
          unfold anyBad
          rw [List.any_eq_true]
          refine ⟨x, ?_, hbx.out⟩
          have hl := HL.out
          rw [← hx.out, List.getD_eq_getElem?_getD, List.getElem?_eq_getElem (by omega)]
          exact List.getElem_mem _
        · intro _; omega
      | false =>
        go_wp2_with fail
        go_roundw
        case rel => exact ⟨i + 1, by go_num, by omega, Lib.hid (fun j h => by
          rcases Nat.lt_or_ge j i with h1 | h1
          · exact hno.out j h1
          · have : j = i := by omega
            subst this; rw [hx.out]; exact hbx.out), H⟩
        case measure => simp [intOf]; omega
    · have hI : ¬ (i : Int) < (n : Int) := by omega
      go_wp2
      go_ret
      refine ⟨_, rfl, ⟨_, rfl, ?_, by omega, by omega⟩, H⟩
      constructor
      · intro h; omega
      · intro h
        exfalso
        unfold anyBad at h
        rw [List.any_eq_true] at h
        obtain ⟨x, hx, hb⟩ := h
        obtain ⟨j, hj, rfl⟩ := List.getElem_of_mem hx
        have hl := HL.out
        have := hno.out j (by omega)
        rw [List.getD_eq_getElem?_getD, List.getElem?_eq_getElem hj] at this
        simp only [Option.getD_some] at this
        rw [this] at hb
        cases hb
theorem contains_any {w : World} {v : Value} {n : Nat} {F : List Int} (hr : Rd w 1 v n (nums F)) (hn : n ≤ 1000000) :
    Calls Try.prog 71 #[v, .func (.func 70) #[] #[]] w (Ret fun r w' => r = .bool (anyBad F) ∧ Own w w' []) := by
  have HI := Lib.hid (index_any hr hn)
  obtain ⟨b, hb⟩ : ∃ b, Hid (anyBad F = b) := ⟨_, rfl⟩
  rw [hb.out]
  clear hr
  go_enter Try.func71, Try.ntmps71
  go_wp2_with fail
  refine HI.out.mono ?_
  rintro e w1 ⟨_, rfl, ⟨x, rfl, hx, hx1, hx2⟩, H1⟩
  rw [hb.out] at hx
  by_cases h0 : 0 ≤ x
  · have e := hx.1 h0
    subst e
    clear hx
    go_wp2
    go_ret
    exact ⟨_, rfl, rfl, H1⟩
  · have e : b = false := by cases b <;> simp_all
    subst e
    have e2 : Hid (decide (0 ≤ x) = false) := Lib.hid (by simp; omega)
    clear hx
    go_wp2
    go_ret
    exact ⟨_, rfl, by show Value.bool (decide (0 ≤ x)) = _; rw [e2.out], H1⟩
end Go.Proofs.Ytljejkdkjnbmhaa
/- huff: the walk of Lengths: what comes behind the rows. -/
namespace Go.Proofs.Ytljejkdkjnbmhaa
open Go.RowKit

/-- Of the text of Lengths, from a region on. -/
noncomputable def lenTail (r : Nat) : Code := ((Try.f57.body.bind (fromR r)).getD .skip)
/-- The pieces of the rows. -/
def rowPs (base : List Coin) (f : Nat → Value) : Nat → List Piece
  | 0 => []
  | k + 1 => slc 124 2 (f k) (rowsF base k).length (rows ce (rowsF base k)) :: rowPs base f k
theorem rowPs_get (base : List Coin) (f : Nat → Value) : ∀ k j, j < k → (rowPs base f k)[k - 1 - j]? = some (slc 124 2 (f j) (rowsF base j).length (rows ce (rowsF base j)))
  | 0, j, h => by omega
  | k + 1, j, h => by
    rw [rowPs]
    rcases Nat.lt_or_ge j k with h1 | h1
    · rw [show k + 1 - 1 - j = (k - 1 - j) + 1 by omega, List.getElem?_cons_succ]
      exact rowPs_get base f k j h1
    · have : j = k := by omega
      subst this
      rw [show j + 1 - 1 - j = 0 by omega]
      rfl
theorem rowPs_congr (base : List Coin) (f g : Nat → Value) : ∀ k, (∀ j, j < k → f j = g j) → rowPs base f k = rowPs base g k
  | 0, _ => rfl
  | k + 1, h => by rw [rowPs, rowPs, h k (by omega), rowPs_congr base f g k fun j hj => h j (by omega)]
/-- What is taken, of m rows. -/
def cntM (base : List Coin) : Nat → Nat → List Nat
  | 0, _ => []
  | m + 1, n => (n - npF (rowsF base m) n) :: cntM base m (2 * npF (rowsF base m) n)
theorem cntM_eq (base : List Coin) : ∀ i n, cntM base (i + 1) n = cntF base i n := by
  intro i
  induction i with
  | zero => intro n; rfl
  | succ i ih => intro n; rw [cntM, ih, cntF]
theorem rowsF_len_le (base : List Coin) (i : Nat) : (rowsF base i).length ≤ 2 * base.length := by
  induction i with
  | zero => simp [rowsF]; omega
  | succ i ih => rw [rowsF_length]; omega
theorem bump_bounds {o : List Int} {syms : List Int} (hnd : syms.Nodup) (hin : ∀ x ∈ syms, ∃ s : Nat, x = s ∧ s < o.length) (j s : Nat) : o.getD s 0 ≤ (bumpF o (syms.take j)).getD s 0 ∧ (bumpF o (syms.take j)).getD s 0 ≤ o.getD s 0 + 1 := by
  rw [bumpF_get _ _ _ (fun x hx => hin x (List.mem_of_mem_take hx)), count_nodup (hnd.sublist (List.take_sublist _ _))]
  split <;> omega

set_option maxRecDepth 100000 in
set_option maxHeartbeats 12800000 in
theorem len_tail33 {w wr : World} {base : List Coin} {f : Nat → Value} {syms o R : List Int} {L N n rg rc og oc sg sc : Nat} {er : Int} (hb : Hid (Base base)) (hN : Hid (base.length = N)) (h2 : 2 ≤ N) (hN3 : N ≤ 320) (hL1 : 1 ≤ L) (hL2 : L ≤ 15) (hn : n ≤ 320) (ho : Hid (o.length = n)) (hz : Hid (∀ s, o.getD s 0 = 0))
    (hsl : Hid (syms.length = N)) (hnd : Hid syms.Nodup) (hin : Hid (∀ x ∈ syms, ∃ s : Nat, x = s ∧ s < n)) (hpow : Hid (N ≤ 2 ^ L)) (he : er = 0) (hR : Hid (outF syms (cntF base (L - 1) (2 * N - 2)) o = R)) (hbv : ∃ a c, f 0 = .slice a N c)
    (z0 z2 z3 z4 z5 z6 z8 z9 z11 z12 z14 z15 z17 z18 z19 z20 z21 z22 z23 z24 z25 z26 z27 z28 z29 z30 z31 z32 z33 z34 z35 z36 z37 z38 z39 z40 z41 z42 z43 z44 z45 z46 z47 z48 z49 z50 z51 z52 z53 z54 z55 z56 z57 z58 z59 z60 z61 z62 z63 z64 z65 z66 z67 z68 z69 z70 z71 z72 z73 z74 z75 z76 z77 z78 z79 z80 z81 z82 z83 z84 z85 z86 z87 z88 z89 z90 z91 z92 z93 z94 z95 z96 z97 z98 z99 z100 z101 z102 z103 z104 z105 z106 z107 z108 z109 z110 z111 z112 z113 z114 z115 z116 z117 z118 z119 z120 z121 z122 z123 z124 z125 z126 z127 z128 z129 z130 z131 z132 z133 z134 z135 z136 z137 z138 z139 z140 z141 z142 z143 z144 z145 z146 z147 z148 : Value)
    (H : Own w wr (slc 122 1 (.slice (some ⟨rg, 0, none⟩) L rc) L ((List.range L).map f) :: slc 3 1 (.slice (some ⟨og, 0, none⟩) n oc) n (nums o) :: slc 3 1 (.slice (some ⟨sg, 0, none⟩) N sc) N (nums syms) :: rowPs base f L)) :
    Code.wp Try.prog (lenTail 33) (bodyPost Try.prog Try.f57 (Ret fun r w' => ∃ ov, r = .tuple #[ov, .int .i64 er] ∧ Own w w' [slc 3 1 ov n (nums R)]))
      ⟨#[z0, .int .i64 L, z2, z3, z4, z5, z6, .slice (some ⟨sg, 0, none⟩) N sc, z8, z9, .slice (some ⟨og, 0, none⟩) n oc, z11, z12, f 0, z14, z15, .slice (some ⟨rg, 0, none⟩) L rc, z17, z18, z19, z20, z21, z22, z23, z24, z25, z26, z27, z28, z29, z30, z31, z32, z33, z34, z35, z36, z37, z38, z39, z40, z41, z42, z43, z44, z45, z46, z47, z48, z49, z50, z51, z52, z53, z54, z55, z56, z57, z58, z59, z60, z61, z62, z63, z64, z65, z66, z67, z68, z69, z70, z71, z72, z73, z74, z75, z76, z77, z78, z79, z80, z81, z82, z83, z84, z85, z86, z87, z88, z89, z90, z91, z92, z93, z94, z95, z96, z97, z98, z99, z100, z101, z102, z103, z104, z105, z106, z107, z108, z109, z110, z111, z112, z113, z114, z115, z116, z117, z118, z119, z120, z121, z122, z123, z124, z125, z126, z127, z128, z129, z130, z131, z132, z133, z134, z135, z136, z137, z138, z139, z140, z141, z142, z143, z144, z145, z146, z147, z148], []⟩ wr := by
  conv => arg 2; whnf
  dsimp only
  subst he
  obtain ⟨ba, bc, hbv⟩ := hbv
  rw [hbv]
  have hwN : IntKind.i64.wrap (2 * (N : Int)) = 2 * (N : Int) := IntWalk.i64_in _ ⟨by omega, by omega⟩
  have hwN2 : IntKind.i64.wrap (2 * (N : Int) - 2) = ((2 * N - 2 : Nat) : Int) := by rw [IntWalk.i64_in _ ⟨by omega, by omega⟩]; omega
  have hwL : IntKind.i64.wrap ((L : Int) - 1) = (L : Int) - 1 := IntWalk.i64_in _ ⟨by omega, by omega⟩
  have hnn : 2 * N - 2 ≤ (rowsF base (L - 1)).length := by
    have := rowsF_enough (base := base) (L - 1) (by rw [hN.out, show L - 1 + 1 = L by omega]; exact hpow.out)
    have := hN.out
    omega
  have hnn2 : 2 * N - 2 ≤ 640 := by omega
  have hRM : Hid (outF syms (cntM base L (2 * N - 2)) o = R) := Lib.hid (by
    have e := cntM_eq base (L - 1) (2 * N - 2)
    rw [show L - 1 + 1 = L by omega] at e
    rw [e]; exact hR.out)
  obtain ⟨nn, hnnE⟩ : ∃ nn, Hid (2 * N - 2 = nn) := ⟨_, rfl⟩
  rw [hnnE.out] at hwN2 hnn hRM hnn2
  have HNN := Lib.hid hnn
  have hNc : N ≤ sc := by obtain ⟨_, _, e, h1, _⟩ := (H.front 2 rfl).rd.shape; cases e; exact h1
  have hsc : sc ≤ 9223372036854775807 := by obtain ⟨_, _, e, _, h1⟩ := (H.front 2 rfl).rd.shape; cases e; exact h1
  clear hnn hR hpow hbv h2
  go_wp2_with fail
  go_loopw [17, 18] (fun s17 s18 wx => ∃ (m k : Nat) (q : List Int) (t : Nat), s17 = .int .i64 k ∧ s18 = .int .i64 ((m : Int) - 1) ∧ m ≤ L ∧ k ≤ 640 ∧ t + m ≤ 15 ∧ Hid (0 < m → k ≤ (rowsF base (m - 1)).length) ∧ Hid (q.length = n) ∧ Hid (∀ s, 0 ≤ q.getD s 0 ∧ q.getD s 0 ≤ t) ∧ Hid (outF syms (cntM base m k) q = R) ∧ Own w wx (slc 122 1 (.slice (some ⟨rg, 0, none⟩) L rc) L ((List.range L).map f) :: slc 3 1 (.slice (some ⟨og, 0, none⟩) n oc) n (nums q) :: slc 3 1 (.slice (some ⟨sg, 0, none⟩) N sc) N (nums syms) :: rowPs base f L)) (fun _ s18 _ => (intOf s18 + 1).toNat)
  case atStart => exact ⟨L, nn, o, 0, by go_num, by go_num, Nat.le_refl _, hnn2, by omega, Lib.hid (fun _ => HNN.out), ho, Lib.hid (fun s => by rw [hz.out s]; omega), hRM, H⟩
  case round =>
    clear H hRM HNN hwN hwN2 hz ho
    obtain ⟨m, k, q, t, rfl, rfl, hm, hk, ht, hkl, hq, hqb, hqR, H⟩ := hrel
    rcases Nat.eq_zero_or_pos m with h0 | h0
    · subst h0
      have e : Hid (q = R) := Lib.hid hqR.out
      have hm1 : ¬ (0 : Int) ≤ ((0 : Nat) : Int) - 1 := by omega
      clear hqR hkl
      go_wp2
      go_ret2
      refine ⟨_, rfl, _, rfl, ?_⟩
      rw [← e.out]
      obtain ⟨r, hr⟩ : ∃ r, rowPs base f L = r := ⟨_, rfl⟩
      have H2 := (H.front 1 rfl)
      refine ⟨H2.below, ?_⟩
      obtain ⟨_, h, g1, g2, g3, _⟩ := H2
      exact ⟨h, g1, g2, g3, trivial⟩
    · obtain ⟨i, rfl⟩ : ∃ i, m = i + 1 := ⟨m - 1, by omega⟩
      have hiE : ((i + 1 : Nat) : Int) - 1 = (i : Int) := by omega
      rw [hiE]
      have hrd : Rd wr 2 (f i) (rowsF base i).length (rows ce (rowsF base i)) := (H.front (3 + (L - 1 - i)) (by
        rw [Nat.add_comm 3]
        simp only [List.getElem?_cons_succ]
        exact rowPs_get base f L i (by omega))).rd
      have hkl2 : k ≤ (rowsF base i).length := by have := hkl.out (by omega); simpa using this
      have hrl := rowsF_len_le base i
      rw [hN.out] at hrl
      have hs := (ns_singles hb.out i k hkl2).1
      rw [hN.out] at hs
      have hp := npF_le (rowsF base i) k
      have hnext : 0 < i → 2 * npF (rowsF base i) k ≤ (rowsF base (i - 1)).length := fun h => by
        obtain ⟨j, rfl⟩ : ∃ j, i = j + 1 := ⟨i - 1, by omega⟩
        exact np_two hb.out j k
      have hqR2 := hqR.out
      rw [cntM] at hqR2
      have hc := counted_any hrd (by omega) hkl2
      obtain ⟨P, hP⟩ : ∃ P, Hid (npF (rowsF base i) k = P) := ⟨_, rfl⟩
      rw [hP.out] at hs hp hnext hqR2 hc
      obtain ⟨S, hS⟩ : ∃ S, Hid (k - P = S) := ⟨_, rfl⟩
      rw [hS.out] at hs hqR2 hc
      obtain ⟨fa, fc, hfi, hf1, hf2⟩ := hrd.shape
      have c0 : wr.cell? ⟨rg, i, none⟩ = some (f i) := by
        have := H.rd.cell (j := i) (u := f i) (by simp [show i < L by omega])
        simpa using this
      rw [hfi] at c0 hc
      have HC := Lib.hid hc
      have HR2 : Hid (outF syms (cntM base i (2 * P)) (bumpF q (syms.take S)) = R) := Lib.hid hqR2
      have HNX := Lib.hid hnext
      have hiL : (i : Int) < (L : Int) := by omega
      have hLc : L ≤ rc := by obtain ⟨_, _, e, h1, _⟩ := H.rd.shape; cases e; exact h1
      obtain ⟨ln, hln⟩ : ∃ ln, (rowsF base i).length = ln := ⟨_, rfl⟩
      rw [hln] at hrl c0 HC
      clear hc hqR2 hqR hnext hkl hkl2 hrd hfi hln hiE hm h0 hf1 hf2
      go_wp2_with fail
      refine HC.out.mono ?_
      rintro e w1 ⟨_, rfl, rfl, H1⟩
      have H := H.join H1
      clear H1 c0 HC
      have hSN : (S : Int) ≤ (N : Int) := by omega
      have hSc : (S : Int) ≤ (sc : Int) := by omega
      go_wp2_with fail
      go_loopw [135] (fun s135 wx => ∃ j : Nat, s135 = .int .i64 j ∧ j ≤ S ∧ Own w wx (slc 122 1 (.slice (some ⟨rg, 0, none⟩) L rc) L ((List.range L).map f) :: slc 3 1 (.slice (some ⟨og, 0, none⟩) n oc) n (nums (bumpF q (syms.take j))) :: slc 3 1 (.slice (some ⟨sg, 0, none⟩) N sc) N (nums syms) :: rowPs base f L)) (fun s135 _ => S - (intOf s135).toNat)
      case atStart => exact ⟨0, by go_num, by omega, by simpa [bumpF] using H⟩
      case round =>
        clear H
        obtain ⟨j, rfl, hj, H⟩ := hrel
        by_cases hlt : j < S
        · obtain ⟨x, hx⟩ := get_of_lt (l := syms) (k := j) (by have := hsl.out; omega)
          obtain ⟨z, rfl, hz2⟩ := hin.out x (List.mem_of_getElem? hx)
          have hql : (bumpF q (syms.take j)).length = n := by rw [bumpF_length]; exact hq.out
          have hbd := bump_bounds (o := q) hnd.out (fun x hx => by rw [hq.out]; exact hin.out x hx) j z
          have hqz := hqb.out z
          have hst : (nums (bumpF q (syms.take j))).set z (.int .i64 ((bumpF q (syms.take j)).getD z 0 + 1)) = nums (bumpF q (syms.take (j + 1))) := by
            rw [nums_set, bump_take hx]; rfl
          have c2 := (H.front 2 rfl).rd.cell (nums_get hx)
          have c1 := (H.front 1 rfl).rd.cell (j := z) (nums_get (List.getElem?_eq_getElem (by omega)))
          rw [show (bumpF q (syms.take j))[z]'(by omega) = (bumpF q (syms.take j)).getD z 0 by rw [List.getD_eq_getElem?_getD, List.getElem?_eq_getElem (by omega)]; rfl] at c1
          rw [Nat.zero_add] at c1 c2
          have HST := Lib.hid hst
          obtain ⟨y, hy⟩ : ∃ y, Hid ((bumpF q (syms.take j)).getD z 0 = y) := ⟨_, rfl⟩
          rw [hy.out] at hbd c1 HST
          have hfr := (H.front 1 rfl).at (by rw [nums_length, hql]; omega)
          obtain ⟨_, _, he, ho1, ho2, _⟩ := hfr
          cases he
          have hyw : IntKind.i64.wrap (y + 1) = y + 1 := IntWalk.i64_in _ ⟨by omega, by omega⟩
          have hjI : (j : Int) < (S : Int) := by omega
          have hzI : (z : Int) < (n : Int) := by omega
          clear hst hql hx hbd hqz
          go_wp2_with (refine wpList_store_slc rfl _ _ rfl rfl (H.front 1 rfl) (.int .i64 (y + 1)) rfl (by kernel_rfl) (by omega) rfl ?_; clear H c1 c2; intro w2 H; rw [HST.out] at H; replace H := H.swap)
          go_roundw
          case rel => exact ⟨j + 1, by go_num, by omega, H⟩
          case measure => simp [intOf]; omega
        · obtain rfl : j = S := by omega
          have hjI : ¬ (j : Int) < (j : Int) := by omega
          have hql : Hid ((bumpF q (syms.take j)).length = n) := Lib.hid (by rw [bumpF_length]; exact hq.out)
          have hqb2 : Hid (∀ s, 0 ≤ (bumpF q (syms.take j)).getD s 0 ∧ (bumpF q (syms.take j)).getD s 0 ≤ ((t + 1 : Nat) : Int)) := Lib.hid (fun s => by
            have hbd := bump_bounds (o := q) hnd.out (fun x hx => by rw [hq.out]; exact hin.out x hx) j s
            have hqz := hqb.out s
            omega)
          have hPw : IntKind.i64.wrap (2 * (P : Int)) = ((2 * P : Nat) : Int) := by rw [IntWalk.i64_in _ ⟨by omega, by omega⟩]; omega
          have hiw : IntKind.i64.wrap ((i : Int) - 1) = (i : Int) - 1 := IntWalk.i64_in _ ⟨by omega, by omega⟩
          have hP2 : 2 * P ≤ 640 := by
            rcases Nat.eq_zero_or_pos i with h | h
            · have h2 := hP.out
              rw [h, rowsF_zero_np hb.out] at h2
              omega
            · have h2 := HNX.out h
              have h3 := rowsF_len_le base (i - 1)
              have h4 := hN.out
              omega
          generalize bumpF q (syms.take j) = q2 at *
          clear hqb hq
          go_wp2
          go_roundw
          case rel => exact ⟨i, 2 * P, q2, t + 1, by go_num, by go_num, by omega, hP2, by omega, HNX, hql, hqb2, HR2, H⟩
          case measure => simp [intOf]
end Go.Proofs.Ytljejkdkjnbmhaa
/- huff: the walk of Lengths: the rows. -/
namespace Go.Proofs.Ytljejkdkjnbmhaa
open Go.RowKit

theorem crowInfo : (Try.prog.info? 122).map (fun i => (i.zero, i.size, i.bytes)) = some (some (.slice none 0 0), 1, 24) := by kernel_rfl
theorem rows_map_one (F : List Int) (z : Nat) : ce (coinOf F z) = [.int .i64 (F.getD z 0), .bool false] := rfl

set_option maxRecDepth 100000 in
set_option maxHeartbeats 12800000 in
theorem len_tail22 {w wr : World} {base : List Coin} {v : Value} {F syms o R : List Int} {L N n B og oc sg sc : Nat} {er : Int} (hb : Hid (Base base)) (hbe : Hid (syms.map (coinOf F) = base)) (hN : Hid (base.length = N)) (h2 : 2 ≤ N) (hN3 : N ≤ 320) (hL1 : 1 ≤ L) (hL2 : L ≤ 15) (hn : n ≤ 320) (ho : Hid (o.length = n)) (hz : Hid (∀ s, o.getD s 0 = 0))
    (hsl : Hid (syms.length = N)) (hnd : Hid syms.Nodup) (hin : Hid (∀ x ∈ syms, ∃ s : Nat, x = s ∧ s < n)) (hpow : Hid (N ≤ 2 ^ L)) (he : er = 0) (hR : Hid (outF syms (cntF base (L - 1) (2 * N - 2)) o = R)) (hr : Hid (Rd w 1 v n (nums F))) (hF : Hid (∀ c ∈ base, c.w ≤ 4294967296))
    (z0 z3 z4 z5 z6 z8 z9 z11 z12 z13 z14 z15 z16 z17 z18 z19 z20 z21 z22 z23 z24 z25 z26 z27 z28 z29 z30 z31 z32 z33 z34 z35 z36 z37 z38 z39 z40 z41 z42 z43 z44 z45 z46 z47 z48 z49 z50 z51 z52 z53 z54 z55 z56 z57 z58 z59 z60 z61 z62 z63 z64 z65 z66 z67 z68 z69 z70 z71 z72 z73 z74 z75 z76 z77 z78 z79 z80 z81 z82 z83 z84 z85 z86 z87 z88 z89 z90 z91 z92 z93 z94 z95 z96 z97 z98 z99 z100 z101 z102 z103 z104 z105 z106 z107 z108 z109 z110 z111 z112 z113 z114 z115 z116 z117 z118 z119 z120 z121 z122 z123 z124 z125 z126 z127 z128 z129 z130 z131 z132 z133 z134 z135 z136 z137 z138 z139 z140 z141 z142 z143 z144 z145 z146 z147 z148 : Value)
    (H : Own w wr (slc 3 1 (.slice (some ⟨og, 0, none⟩) n oc) n (nums o) :: slc 3 1 (.slice (some ⟨sg, 0, none⟩) N sc) N (nums syms) :: blk B (.cells #[v] 30) :: [])) :
    Code.wp Try.prog (lenTail 22) (bodyPost Try.prog Try.f57 (Ret fun r w' => ∃ ov, r = .tuple #[ov, .int .i64 er] ∧ Own w w' [slc 3 1 ov n (nums R)]))
      ⟨#[z0, .int .i64 L, .pointer (some ⟨B, 0, none⟩), z3, z4, z5, z6, .slice (some ⟨sg, 0, none⟩) N sc, z8, z9, .slice (some ⟨og, 0, none⟩) n oc, z11, z12, z13, z14, z15, z16, z17, z18, z19, z20, z21, z22, z23, z24, z25, z26, z27, z28, z29, z30, z31, z32, z33, z34, z35, z36, z37, z38, z39, z40, z41, z42, z43, z44, z45, z46, z47, z48, z49, z50, z51, z52, z53, z54, z55, z56, z57, z58, z59, z60, z61, z62, z63, z64, z65, z66, z67, z68, z69, z70, z71, z72, z73, z74, z75, z76, z77, z78, z79, z80, z81, z82, z83, z84, z85, z86, z87, z88, z89, z90, z91, z92, z93, z94, z95, z96, z97, z98, z99, z100, z101, z102, z103, z104, z105, z106, z107, z108, z109, z110, z111, z112, z113, z114, z115, z116, z117, z118, z119, z120, z121, z122, z123, z124, z125, z126, z127, z128, z129, z130, z131, z132, z133, z134, z135, z136, z137, z138, z139, z140, z141, z142, z143, z144, z145, z146, z147, z148], []⟩ wr := by
  conv => arg 2; whnf
  dsimp only
  have hFl : Hid (F.length = n) := Lib.hid (by have := hr.out.len; rw [nums_length] at this; omega)
  obtain ⟨x0, hx0⟩ := get_of_lt (l := syms) (k := 0) (by have := hsl.out; omega)
  obtain ⟨z0', _, hz0'⟩ := hin.out x0 (List.mem_of_getElem? hx0)
  obtain ⟨fb, fo, fc, rfl, hc1, hc2⟩ := hr.out.some (by rw [nums_length]; have := hFl.out; omega)
  clear hx0
  have H := (H.nil 124 2)
  have hwL : IntKind.i64.wrap ((L : Int) - 1) = (L : Int) - 1 := IntWalk.i64_in _ ⟨by omega, by omega⟩
  go_wp2_with fail
  go_loopw [13, 80] (fun s13 s80 wx => ∃ k : Nat, s80 = .int .i64 k ∧ k ≤ N ∧ Own w wx (slc 124 2 s13 k (rows ce ((syms.take k).map (coinOf F))) :: slc 3 1 (.slice (some ⟨og, 0, none⟩) n oc) n (nums o) :: slc 3 1 (.slice (some ⟨sg, 0, none⟩) N sc) N (nums syms) :: blk B (.cells #[.slice (some ⟨fb, fo, none⟩) n fc] 30) :: [])) (fun _ s80 _ => N - (intOf s80).toNat)
  case atStart => exact ⟨0, by go_num, by omega, by simpa [rows] using H⟩
  case round =>
    clear H
    obtain ⟨k, rfl, hk, H⟩ := hrel
    by_cases hlt : k < N
    · obtain ⟨x, hx⟩ := get_of_lt (l := syms) (k := k) (by have := hsl.out; omega)
      obtain ⟨z, rfl, hz2⟩ := hin.out x (List.mem_of_getElem? hx)
      have hst : rows ce ((syms.take k).map (coinOf F)) ++ ce (coinOf F z) = rows ce ((syms.take (k + 1)).map (coinOf F)) := by
        rw [List.take_add_one, hx, List.map_append, rows_append]; rfl
      have c2 := (H.front 2 rfl).rd.cell (nums_get hx)
      have c3 := (H.front 3 rfl).cells
      have c1 := (hr.out.old H).cell (j := z) (nums_get (List.getElem?_eq_getElem (by have := hFl.out; omega)))
      rw [show F[z]'(by have := hFl.out; omega) = F.getD z 0 by rw [List.getD_eq_getElem?_getD, List.getElem?_eq_getElem (by have := hFl.out; omega)]; rfl] at c1
      rw [Nat.zero_add] at c2
      rw [rows_map_one] at hst
      have HST := Lib.hid hst
      obtain ⟨y, hy⟩ : ∃ y, Hid (F.getD z 0 = y) := ⟨_, rfl⟩
      rw [hy.out] at c1 HST
      have hkI : (k : Int) < (N : Int) := by omega
      have hzI : (z : Int) < (n : Int) := by omega
      clear hst hx
      go_wp2_with (at_builtin; refine wpList_append_one rfl _ _ rfl Try.underlying122 coinInfo rfl (by decide) rfl H (news := [.int .i64 y, .bool false]) rfl rfl rfl (by simp [Value.oneCell']) (by omega) (by omega) ?_; clear H c1 c2 c3; intro v' w' H; rw [HST.out] at H)
      go_roundw
      case rel => exact ⟨k + 1, by go_num, by omega, H⟩
      case measure => simp [intOf]; omega
    · obtain rfl : k = N := by omega
      rw [List.take_of_length_le (by have := hsl.out; omega), hbe.out] at H
      obtain ⟨bg, bc, rfl, hd1, hd2, -⟩ := H.at (by rw [rows_length ce SC.e_length, hN.out]; omega)
      obtain ⟨bv, hbv⟩ : ∃ bv, Hid (Value.slice (some ⟨bg, 0, none⟩) k bc = bv) := ⟨_, rfl⟩
      have hkI : ¬ (k : Int) < (k : Int) := by omega
      go_upto_region 29 with (fail)
      replace H := (H.alloc (.cells #[.slice (some ⟨bg, 0, none⟩) k bc] 122)).slc_mk (xs := [.slice (some ⟨bg, 0, none⟩) k bc]) (n := 1) (size := 1) rfl (Nat.le_refl _) (by decide) rfl rfl
      generalize wr.alloc (.cells #[.slice (some ⟨bg, 0, none⟩) k bc] 122) = w0 at *
      generalize wr.heap.size = rg0 at *
      have H : Own w w0 (slc 122 1 (.slice (some ⟨rg0, 0, none⟩) (0 + 1) 1) (0 + 1) ((List.range (0 + 1)).map (fun _ => Value.slice (some ⟨bg, 0, none⟩) k bc)) :: slc 3 1 (.slice (some ⟨og, 0, none⟩) n oc) n (nums o) :: slc 3 1 (.slice (some ⟨sg, 0, none⟩) k sc) k (nums syms) :: rowPs base (fun _ => Value.slice (some ⟨bg, 0, none⟩) k bc) (0 + 1)) := by
        have e : slc 124 2 (.slice (some ⟨bg, 0, none⟩) k bc) k (rows ce base) = slc 124 2 (.slice (some ⟨bg, 0, none⟩) k bc) (rowsF base 0).length (rows ce (rowsF base 0)) := by
          show _ = slc 124 2 _ base.length _
          rw [hN.out]; rfl
        rw [e] at H
        exact (((((H.front 3 rfl).front 3 rfl).front 2 rfl).front 4 rfl).drop)
      go_upto_block 6 with (fail)
      go_cut [16] (fun s16 wx => ∃ (rg rc : Nat) (f : Nat → Value), s16 = .slice (some ⟨rg, 0, none⟩) L rc ∧ Hid (f 0 = .slice (some ⟨bg, 0, none⟩) k bc) ∧ Own w wx (slc 122 1 (.slice (some ⟨rg, 0, none⟩) L rc) L ((List.range L).map f) :: slc 3 1 (.slice (some ⟨og, 0, none⟩) n oc) n (nums o) :: slc 3 1 (.slice (some ⟨sg, 0, none⟩) k sc) k (nums syms) :: rowPs base f L))
      case first =>
        go_wp2_with fail
        go_loopw [16, 97] (fun s16 s97 wx => ∃ (i rg rc : Nat) (f : Nat → Value), s97 = .int .i64 i ∧ i + 1 ≤ L ∧ s16 = .slice (some ⟨rg, 0, none⟩) (i + 1) rc ∧ Hid (f 0 = .slice (some ⟨bg, 0, none⟩) k bc) ∧ Own w wx (slc 122 1 (.slice (some ⟨rg, 0, none⟩) (i + 1) rc) (i + 1) ((List.range (i + 1)).map f) :: slc 3 1 (.slice (some ⟨og, 0, none⟩) n oc) n (nums o) :: slc 3 1 (.slice (some ⟨sg, 0, none⟩) k sc) k (nums syms) :: rowPs base f (i + 1))) (fun _ s97 _ => L - (intOf s97).toNat)
        case atStart => exact ⟨0, rg0, 1, _, by go_num, hL1, rfl, Lib.hid rfl, H⟩
        case round =>
          clear H
          obtain ⟨i, rg, rc, f, rfl, hi, rfl, hf0, H⟩ := hrel
          by_cases hlt : i + 1 < L
          · have hbase : Rd wr 2 (f 0) (rowsF base 0).length (rows ce (rowsF base 0)) := (H.front (3 + (i + 1 - 1 - 0)) (by
              rw [Nat.add_comm 3]
              simp only [List.getElem?_cons_succ]
              exact rowPs_get base f (i + 1) 0 (by omega))).rd
            have hlast : Rd wr 2 (f i) (rowsF base i).length (rows ce (rowsF base i)) := (H.front 3 rfl).rd
            have hbl : (rowsF base 0).length = k := hN.out
            have hll : (rowsF base i).length ≤ 1000 := by have := rowsF_len_le base i; have := hN.out; omega
            have hbw : ∀ c ∈ rowsF base i, 0 ≤ c.w ∧ c.w ≤ 1000000000000000000 := fun c hc => by
              have h1 := rowsF_pos hb.out i c hc
              have h2 := rowsF_le i 4294967296 (by omega) hF.out c hc
              have h3 : (2 : Int) ^ i ≤ 2 ^ 14 := by
                have : (2 : Nat) ^ i ≤ 2 ^ 14 := Nat.pow_le_pow_right (by omega) (by omega)
                exact_mod_cast this
              have h4 := Int.mul_le_mul_of_nonneg_right h3 (show (0 : Int) ≤ 4294967296 by omega)
              omega
            obtain ⟨fa, fcp, hfi, hf1, hf2⟩ := hlast.shape
            have hc := row_any hbase hlast (by rw [hbl]; omega) (by rw [hbl]; omega) hll hbw
            have e1 : rowF (rowsF base 0) (rowsF base i) = rowsF base (i + 1) := rfl
            rw [e1] at hc
            obtain ⟨_, _, he, hr1, hr2, -⟩ := H.at (by simp)
            cases he
            have c0 : wr.cell? ⟨rg, i, none⟩ = some (f i) := by
              have := H.rd.cell (j := i) (u := f i) (by simp)
              simpa using this
            rw [hf0.out] at hc
            rw [hfi] at c0 hc
            have HC := Lib.hid hc
            obtain ⟨ln, hln⟩ : ∃ ln, (rowsF base i).length = ln := ⟨_, rfl⟩
            rw [hln] at c0 HC
            have hiI : (i : Int) < ((L : Int) - 1) := by omega
            clear hc hbase hlast hbl hll hbw e1 hfi hln hf1 hf2
            go_wp2_with fail
            refine HC.out.mono ?_
            rintro e w1 ⟨r, rfl, H1⟩
            obtain ⟨ra, rcp, rfl, -⟩ := H1.rd.shape
            have H := (H.join H1).swap
            clear HC H1 c0
            obtain ⟨rv, hrv⟩ : ∃ rv, Hid (Value.slice ra (rowsF base (i + 1)).length rcp = rv) := ⟨_, rfl⟩
            obtain ⟨rl, hrl⟩ : ∃ rl, Hid ((rowsF base (i + 1)).length = rl) := ⟨_, rfl⟩
            rw [hrl.out] at hrv H ⊢
            go_wp2_with (at_builtin; refine wpList_append_one rfl _ _ rfl Try.underlying125 crowInfo rfl (by decide) rfl H (news := [.slice ra rl rcp]) rfl rfl rfl (by simp [Value.oneCell']) (by omega) (by omega) ?_; clear H; intro v' w' H; obtain ⟨rg2, rc2, rfl, -⟩ := H.at (by simp))
            rw [hrv.out] at H
            go_roundw
            case rel =>
              refine ⟨i + 1, rg2, rc2, fun j => if j = i + 1 then rv else f j, by go_num, by omega, rfl, Lib.hid (by show (if 0 = i + 1 then rv else f 0) = _; rw [if_neg (by omega)]; exact hf0.out), ?_⟩
              have e1 : (List.range (i + 1)).map f ++ [rv] = (List.range (i + 1 + 1)).map (fun j => if j = i + 1 then rv else f j) := by
                rw [List.range_succ (n := i + 1), List.map_append]
                congr 1
                · refine List.map_congr_left fun j hj => ?_
                  rw [if_neg (by have := List.mem_range.1 hj; omega)]
                · simp
              have e2 : rowPs base (fun j => if j = i + 1 then rv else f j) (i + 1 + 1) = slc 124 2 rv (rowsF base (i + 1)).length (rows ce (rowsF base (i + 1))) :: rowPs base f (i + 1) := by
                rw [rowPs, if_pos rfl, rowPs_congr base _ f (i + 1) fun j hj => by rw [if_neg (by omega)]]
              rw [← e1, e2]
              rw [hrl.out]
              exact ((((H.front 3 rfl).front 3 rfl).front 2 rfl))
            case measure => simp [intOf]; omega
          · have hLi : i + 1 = L := by omega
            rw [hLi] at H ⊢
            have hiI : ¬ (i : Int) < (L : Int) - 1 := by omega
            clear hLi hi hlt
            go_wp2_with fail
            go_meet
            exact ⟨rg, rc, f, rfl, hf0, H⟩
      case rest =>
        clear H
        obtain ⟨rg, rc, f, rfl, hf0, H⟩ := hcut
        apply_assumption
        have hb0 := hf0.out
        rw [← hb0]
        exact len_tail33 (n := n) hb hN h2 hN3 hL1 hL2 hn ho hz hsl hnd hin hpow he hR ⟨_, _, hb0⟩ _ _ _ _ _ _ _ _ _ _ _ _ _ _ _ _ _ _ _ _ _ _ _ _ _ _ _ _ _ _ _ _ _ _ _ _ _ _ _ _ _ _ _ _ _ _ _ _ _ _ _ _ _ _ _ _ _ _ _ _ _ _ _ _ _ _ _ _ _ _ _ _ _ _ _ _ _ _ _ _ _ _ _ _ _ _ _ _ _ _ _ _ _ _ _ _ _ _ _ _ _ _ _ _ _ _ _ _ _ _ _ _ _ _ _ _ _ _ _ _ _ _ _ _ _ _ _ _ _ _ _ _ _ _ _ _ _ _ _ _ _ _ _ _ H
end Go.Proofs.Ytljejkdkjnbmhaa
/- huff: the walk of Lengths. -/
namespace Go.Proofs.Ytljejkdkjnbmhaa
open Go.RowKit


theorem sort_syms {w0 w : World} {ps : List Piece} {N B n : Nat} {l F : List Int} {v sv : Value} (hr : Rd w0 1 v n (nums F)) (hn : n ≤ 1000000) (hok : ∀ x ∈ l, 0 ≤ x ∧ x < F.length) (hN : N = l.length) (hNb : N ≤ 1000000)
    (H : Own w0 w (slc 3 1 sv N (nums l) :: blk B (.cells #[v] 30) :: ps)) :
    Calls Try.prog 72 #[sv, SI.cf B] w (Ret fun _ w' => Own w0 w' (slc 3 1 sv N (nums (sortF (frq F) l)) :: blk B (.cells #[v] 30) :: ps)) := by
  rcases H.slc_cases with ⟨rfl, rfl, hx, H2⟩ | ⟨g, cap, cur, rfl, _⟩
  · refine (sortnil_any _ w).mono ?_
    rintro e w1 ⟨_, rfl, h⟩
    have hl : l = [] := List.eq_nil_of_length_eq_zero hN.symm
    subst hl
    exact ⟨_, rfl, (H2.join h).nil _ _⟩
  · rw [← rows_ie] at H ⊢
    exact sortI_any hr hn hok hN hNb H

set_option maxRecDepth 100000 in
set_option maxHeartbeats 12800000 in
theorem lengths_any {w : World} {v : Value} {n : Nat} {F : List Int} {L : Int} (hr : Rd w 1 v n (nums F)) (hn : n ≤ 1000) :
    Calls Try.prog 57 #[v, .int .i64 L] w (Ret fun r w' => ∃ ov, r = .tuple #[ov, .int .i64 (errF F L)] ∧ Own w w' [slc 3 1 ov (resF F L).length (nums (resF F L))]) := by
  have hFl : Hid (F.length = n) := Lib.hid (by have := hr.len; rw [nums_length] at this; omega)
  obtain ⟨va, vc, rfl, hv1, hv2⟩ := hr.shape
  have HR := Lib.hid hr
  have H := (Own.start w).alloc (.cells #[.slice va n vc] 30)
  obtain ⟨bad, hbad⟩ : ∃ bad, Hid (badArg F L = bad) := ⟨_, rfl⟩
  obtain ⟨er, her⟩ : ∃ er, Hid (errF F L = er) := ⟨_, rfl⟩
  obtain ⟨R, hRes⟩ : ∃ R, Hid (resF F L = R) := ⟨_, rfl⟩
  rw [her.out, hRes.out]
  obtain ⟨RL, hRL⟩ : ∃ RL, Hid (R.length = RL) := ⟨_, rfl⟩
  rw [hRL.out]
  have hC := contains_any (w := w) hr (by omega)
  clear hr
  go_enter Try.func57, Try.ntmps57
  go_upto_region 2 with (fail)
  generalize w.alloc (.cells #[.slice va n vc] 30) = wa at *
  generalize w.heap.size = B at *
  have c0 := H.cells
  have HCON := Lib.hid hC
  clear hC
  go_cut [38] (fun s38 wx => s38 = .bool bad ∧ Own w wx [blk B (.cells #[.slice va n vc] 30)])
  case first =>
    have hbd := hbad.out
    unfold badArg at hbd
    rw [hFl.out] at hbd
    by_cases h1 : L < 1
    · have e : Hid (bad = true) := Lib.hid (by rw [← hbd]; simp [h1])
      clear hbd
      go_wp2_with fail
      go_meet
      exact ⟨by rw [e.out], H⟩
    · by_cases h2 : 15 < L
      · have e : Hid (bad = true) := Lib.hid (by rw [← hbd]; simp [h2])
        clear hbd
        go_wp2_with fail
        go_meet
        exact ⟨by rw [e.out], H⟩
      · by_cases h3 : 320 < n
        · have e : Hid (bad = true) := Lib.hid (by rw [← hbd]; simp [h3])
          have h3I : (320 : Int) < (n : Int) := by omega
          clear hbd
          go_wp2_with fail
          go_meet
          exact ⟨by rw [e.out], H⟩
        · have e : Hid (bad = anyBad F) := Lib.hid (by rw [← hbd]; simp [h1, h2, h3])
          have h3I : ¬ (320 : Int) < (n : Int) := by omega
          have HC2 := Lib.hid (contains_any (HR.out.old H) (by omega))
          clear hbd HCON
          go_wp2_with fail
          refine HC2.out.mono ?_
          rintro e1 w1 ⟨_, rfl, rfl, H1⟩
          have H := H.join H1
          rw [← e.out]
          go_wp2_with fail
          go_meet
          exact ⟨rfl, H⟩
  case rest =>
    clear H c0 HCON
    obtain ⟨rfl, H⟩ := hcut
    cases bad with
    | true =>
      have e1 : Hid (er = 1) := Lib.hid (by rw [← her.out]; unfold errF; rw [hbad.out]; rfl)
      have e2 : Hid (R = []) := Lib.hid (by rw [← hRes.out]; unfold resF; rw [her.out, e1.out]; rfl)
      go_wp2_with fail
      go_ret2
      refine ⟨_, rfl, _, by rw [e1.out]; rfl, ?_⟩
      have e3 := hRL.out
      rw [e2.out] at e3
      subst e3
      rw [e2.out]
      exact (H.nil 3 1).swap.drop
    | false =>
      have hbd := hbad.out
      unfold badArg at hbd
      simp only [Bool.or_eq_false_iff, decide_eq_false_iff_not] at hbd
      obtain ⟨⟨⟨hL1, hL2⟩, hL3⟩, hab⟩ := hbd
      obtain ⟨M, rfl⟩ : ∃ M : Nat, L = M := ⟨L.toNat, by omega⟩
      have hM1 : 1 ≤ M := by omega
      have hM2 : M ≤ 15 := by omega
      have hn3 : n ≤ 320 := by have := hFl.out; omega
      have hFb : Hid (∀ f ∈ F, 0 ≤ f ∧ f ≤ 4294967296) := Lib.hid (fun f hf => by
        unfold anyBad at hab
        rw [List.any_eq_false] at hab
        have := hab f hf
        simp only [badF, decide_eq_true_eq] at this
        omega)
      clear hab hL1 hL2 hL3
      have c0 := H.cells
      have H := H.nil 3 1
      go_wp2_with fail
      clear c0
      go_loopw [7, 41] (fun s7 s41 wx => ∃ k : Nat, s41 = .int .i64 k ∧ k ≤ n ∧ Own w wx [slc 3 1 s7 (usedN F k).length (nums (usedN F k)), blk B (.cells #[.slice va n vc] 30)]) (fun _ s41 _ => n - (intOf s41).toNat)
      case atStart => exact ⟨0, by go_num, by omega, by simpa [usedN, nums] using H⟩
      case round =>
        clear H
        obtain ⟨k, rfl, hk, H⟩ := hrel
        by_cases hlt : k < n
        · obtain ⟨b, o, rfl, c1⟩ := rd_num HR.out H (by have := hFl.out; omega : k < F.length) rfl
          have hu := usedN_length F k
          have hus : usedN F (k + 1) = if 0 < F.getD k 0 then usedN F k ++ [(k : Int)] else usedN F k := rfl
          obtain ⟨x, hx⟩ : ∃ x, Hid (F.getD k 0 = x) := ⟨_, rfl⟩
          rw [hx.out] at c1 hus
          have hkI : (k : Int) < (n : Int) := by omega
          obtain ⟨U, hU⟩ : ∃ U, Hid (usedN F k = U) := ⟨_, rfl⟩
          rw [hU.out] at H hus hu
          by_cases hpos : 0 < x
          · rw [if_pos hpos] at hus
            have HUS := Lib.hid hus
            obtain ⟨q, hq⟩ : ∃ q, Hid (U.length = q) := ⟨_, rfl⟩
            rw [hq.out] at H hu
            clear hus
            go_wp2_with (at_builtin; refine wpList_append_one rfl _ _ rfl Try.underlying30 intInfo rfl (by decide) rfl H (news := [.int .i64 k]) rfl rfl rfl (by simp [Value.oneCell']) (by omega) (by omega) ?_; clear H c1; intro v' w' H)
            go_roundw
            case rel =>
              refine ⟨k + 1, by go_num, by omega, ?_⟩
              rw [HUS.out, List.length_append, hq.out]
              simpa [nums] using H
            case measure => simp [intOf]; omega
          · rw [if_neg hpos] at hus
            have HUS := Lib.hid hus
            clear hus
            go_wp2_with fail
            go_roundw
            case rel => exact ⟨k + 1, by go_num, by omega, by rw [HUS.out]; exact H⟩
            case measure => simp [intOf]; omega
        · obtain rfl : k = n := by omega
          have hkI : ¬ (k : Int) < (k : Int) := by omega
          have hul := usedN_length F k
          have hus : Hid (usedN F k = usedF F) := Lib.hid (by unfold usedF; rw [hFl.out])
          rw [hus.out] at H hul
          obtain ⟨a7, c7, rfl, -⟩ := H.rd.shape
          obtain ⟨N, hN⟩ : ∃ N, Hid ((usedF F).length = N) := ⟨_, rfl⟩
          rw [hN.out] at H hul ⊢
          obtain ⟨p, hp⟩ : ∃ p : Nat, Hid (2 ^ M = p) := ⟨_, rfl⟩
          have hp1 : p ≤ 32768 := by
            rw [← hp.out]
            have : 2 ^ M ≤ 2 ^ 15 := Nat.pow_le_pow_right (by omega) hM2
            omega
          have hpw : wrap64 ((2 : Int) ^ M) = (p : Int) := by
            have e : (2 : Int) ^ M = (p : Int) := by rw [← hp.out]; simp
            rw [e]
            exact IntWalk.wrap64_in _ ⟨by omega, by omega⟩
          have herr : Hid (er = if p < N then 3 else 0) := Lib.hid (by
            rw [← her.out]; unfold errF
            rw [hbad.out, if_neg (by simp), Int.toNat_natCast, hp.out, hN.out])
          by_cases hfull : p < N
          · have e1 : Hid (er = 3) := Lib.hid (by rw [herr.out, if_pos hfull])
            have e2 : Hid (R = []) := Lib.hid (by rw [← hRes.out]; unfold resF; rw [her.out, e1.out]; rfl)
            have hfI : (p : Int) < (N : Int) := by omega
            go_wp2_with fail
            go_ret2
            refine ⟨_, rfl, _, by rw [e1.out]; rfl, ?_⟩
            have e3 := hRL.out
            rw [e2.out] at e3
            subst e3
            rw [e2.out]
            exact (H.bare.nil 3 1)
          · have e1 : Hid (er = 0) := Lib.hid (by rw [herr.out, if_neg hfull])
            have e2 : Hid (lengthsF F M = R) := Lib.hid (by rw [← hRes.out]; unfold resF; rw [her.out, e1.out]; rfl)
            have hfI : ¬ (p : Int) < (N : Int) := by omega
            have hS := sort_syms HR.out (by omega) (fun x hx => by
              obtain ⟨s, rfl, h1, _⟩ := (usedN_mem F _ x).1 hx
              exact ⟨by omega, by omega⟩) hN.out.symm (by omega) H
            have esym : sortF (frq F) (usedF F) = symsF F := rfl
            rw [esym] at hS
            have hsl : Hid ((symsF F).length = N) := Lib.hid (by rw [syms_length]; exact hN.out)
            have HS := Lib.hid hS
            clear hS esym herr
            go_wp2_with fail
            refine HS.out.mono ?_
            rintro e w1 ⟨_, rfl, H1⟩
            clear H HS
            have c0 := (H1.front 1 rfl).cells
            have hmk : ∀ w : World, (Instr.makeSlice 30 (.int .i64 k) (.int .i64 k)).run Try.prog w = .ok (.slice (some ⟨w.heap.size, 0, none⟩) k k) (w.alloc (.cells (madeCells #[.int .i64 0] k) 3)) := run_make_row' _ _ _ 8 Try.underlying30 intInfo rfl .i64 .i64 k (by omega) (by omega)
            go_upto_region 15 with (fail)
            clear c0 hmk
            have H := (H1.alloc (.cells (madeCells #[.int .i64 0] k) 3)).slc_mk (xs := nums (zerosF k)) (n := k) (size := 1) (by simp [nums, zerosF]) (Nat.le_refl _) (by simp [maxLen]; omega) (by simp [size_madeCells]) (by rw [toList_madeCells_one]; simp [nums, zerosF])
            clear H1
            generalize w1.alloc (.cells (madeCells #[.int .i64 0] k) 3) = wb at *
            generalize w1.heap.size = og at *
            have hz : Hid (∀ s, (zerosF k).getD s 0 = 0) := Lib.hid (fun s => by
              unfold zerosF
              rw [List.getD_eq_getElem?_getD, List.getElem?_replicate]
              split <;> rfl)
            have hzl : Hid ((zerosF k).length = k) := Lib.hid (by simp [zerosF])
            have hin : Hid (∀ x ∈ symsF F, ∃ s : Nat, x = s ∧ s < k) := Lib.hid (fun x hx => by
              obtain ⟨s, rfl, h1, _⟩ := (syms_mem F x).1 hx
              exact ⟨s, rfl, by have := hFl.out; omega⟩)
            have hRl : k = RL := by rw [← hRL.out, ← e2.out, lengthsF_length]; exact hFl.out.symm
            subst hRl
            by_cases h2 : N < 2
            · have hN2 : (N : Int) < 2 := by omega
              have eR : Hid (bumpF (zerosF k) ((symsF F).take N) = R) := Lib.hid (by
                rw [List.take_of_length_le (by rw [hsl.out]; exact Nat.le_refl _), ← e2.out]
                unfold lengthsF
                rw [if_pos (by rw [hsl.out]; exact h2), hFl.out])
              go_wp2_with fail
              go_loopw [69] (fun s69 wx => ∃ j : Nat, s69 = .int .i64 j ∧ j ≤ N ∧ Own w wx [slc 3 1 (.slice (some ⟨og, 0, none⟩) k k) k (nums (bumpF (zerosF k) ((symsF F).take j))), slc 3 1 (.slice a7 N c7) N (nums (symsF F)), blk B (.cells #[.slice va k vc] 30)]) (fun s69 _ => N - (intOf s69).toNat)
              case atStart => exact ⟨0, by go_num, by omega, by simpa [bumpF] using H⟩
              case round =>
                clear H
                obtain ⟨j, rfl, hj, H⟩ := hrel
                by_cases hlt : j < N
                · obtain rfl : j = 0 := by omega
                  obtain ⟨x, hx⟩ := get_of_lt (l := symsF F) (k := 0) (by have := hsl.out; omega)
                  obtain ⟨z, rfl, hz2⟩ := hin.out x (List.mem_of_getElem? hx)
                  have hst : (nums (bumpF (zerosF k) ((symsF F).take 0))).set z (.int .i64 1) = nums (bumpF (zerosF k) ((symsF F).take (0 + 1))) := by
                    rw [nums_set, bump_take hx]
                    unfold bump1
                    rw [show (bumpF (zerosF k) ((symsF F).take 0)) = zerosF k from rfl, hz.out]
                    rfl
                  have HST := Lib.hid hst
                  obtain ⟨b7, o7, c7', he, -⟩ := (H.front 1 rfl).rd.some (by rw [nums_length, hsl.out]; omega)
                  cases he
                  have c2 := (H.front 1 rfl).rd.cell (nums_get hx)
                  rw [Nat.add_zero] at c2
                  have hjI : (0 : Int) < (N : Int) := by omega
                  have hzI : (z : Int) < (k : Int) := by omega
                  clear hst hx
                  go_wp2_with (refine wpList_store_slc rfl _ _ rfl rfl H (.int .i64 1) rfl (by kernel_rfl) (by omega) rfl ?_; clear H c2; intro w2 H; rw [HST.out] at H)
                  go_roundw
                  case rel => exact ⟨0 + 1, by go_num, by omega, H⟩
                  case measure => simp [intOf]; omega
                · obtain rfl : j = N := by omega
                  have hjI : ¬ (j : Int) < (j : Int) := by omega
                  rw [eR.out] at H
                  go_wp2_with fail
                  go_ret2
                  refine ⟨_, rfl, _, by rw [e1.out]; rfl, ?_⟩
                  exact ((((H.front 2 rfl).front 2 rfl).drop.drop))
            · have h3 : 2 ≤ N := by omega
              have hN2 : ¬ (N : Int) < 2 := by omega
              obtain ⟨sg, sc, he, -⟩ := (H.front 1 rfl).at (by rw [nums_length, hsl.out]; omega)
              cases he
              go_upto_if 66 with (fail)
              go_cut [] (fun wx => Own w wx [slc 3 1 (.slice (some ⟨og, 0, none⟩) k k) k (nums (zerosF k)), slc 3 1 (.slice (some ⟨sg, 0, none⟩) N c7) N (nums (symsF F)), blk B (.cells #[.slice va k vc] 30)])
              case first =>
                go_wp2_with fail
                go_meet
                exact H
              case rest =>
                clear H
                apply_assumption
                refine len_tail22 (n := k) (F := F) (syms := symsF F) (base := baseF F) (o := zerosF k) (Lib.hid (base_law F)) (Lib.hid rfl) (Lib.hid (by rw [base_length]; exact hsl.out)) h3 (by omega) hM1 hM2 hn3 hzl hz hsl (Lib.hid (syms_nodup F)) hin (Lib.hid (by have := hp.out; omega)) e1.out (Lib.hid ?_) HR (Lib.hid ?_) _ _ _ _ _ _ _ _ _ _ _ _ _ _ _ _ _ _ _ _ _ _ _ _ _ _ _ _ _ _ _ _ _ _ _ _ _ _ _ _ _ _ _ _ _ _ _ _ _ _ _ _ _ _ _ _ _ _ _ _ _ _ _ _ _ _ _ _ _ _ _ _ _ _ _ _ _ _ _ _ _ _ _ _ _ _ _ _ _ _ _ _ _ _ _ _ _ _ _ _ _ _ _ _ _ _ _ _ _ _ _ _ _ _ _ _ _ _ _ _ _ _ _ _ _ _ _ _ _ _ _ _ _ _ _ _ _ _ _ _ _ _ _ _ _ hcut
                · rw [← e2.out]
                  unfold lengthsF
                  rw [if_neg (by rw [hsl.out]; omega), hsl.out, hFl.out]
                · intro c hc
                  obtain ⟨s, hs, rfl⟩ := List.mem_map.1 hc
                  obtain ⟨m, rfl, hm, _⟩ := (syms_mem F s).1 hs
                  show F.getD (Int.toNat m) 0 ≤ _
                  rw [Int.toNat_natCast, List.getD_eq_getElem?_getD, List.getElem?_eq_getElem hm]
                  exact (hFb.out _ (List.getElem_mem _)).2
end Go.Proofs.Ytljejkdkjnbmhaa
/- flate: the walk of rich: its parts. -/
namespace Go.Proofs.Ytljejkdkjnbmhaa
open Go.RowKit

theorem Own.trimmed {w0 w : World} {ps : List Piece} {g n c : Nat} {F : List Int} (least : Nat) (h : Own w0 w (slc 3 1 (.slice (some ⟨g, 0, none⟩) n c) n (nums F) :: ps)) (hF : F.length = n) :
    Own w0 w (slc 3 1 (.slice (some ⟨g, 0, none⟩) (trimF F least).length c) (trimF F least).length (nums (trimF F least)) :: ps) := by
  have hk := trimK_le' F least n
  have h1 := h.slc_take hk
  have e : (nums F).take (trimK F least n * 1) = nums (trimF F least) := by
    unfold trimF nums
    rw [Nat.mul_one, List.map_take, hF]
  rw [e] at h1
  rw [trimF_len, hF]
  exact h1
theorem trim_own {w0 w : World} {ps : List Piece} {g n c : Nat} {F : List Int} (least : Nat) (h : Own w0 w (slc 3 1 (.slice (some ⟨g, 0, none⟩) n c) n (nums F) :: ps)) (hF : F.length = n) (hn : n ≤ 1000000) (hl : least ≤ 1000000) :
    Calls Try.prog 58 #[.slice (some ⟨g, 0, none⟩) n c, .int .i64 least] w (Ret fun r w' => r = .slice (some ⟨g, 0, none⟩) (trimF F least).length c ∧ Own w0 w' (slc 3 1 (.slice (some ⟨g, 0, none⟩) (trimF F least).length c) (trimF F least).length (nums (trimF F least)) :: ps)) := by
  refine (trim_any least h.rd hn hl).mono ?_
  rintro e w' ⟨v, rfl, rfl, h1⟩
  exact ⟨_, rfl, by rw [trimF_len, hF], (h.join h1).trimmed least hF⟩
theorem order_any (w : World) : Calls Try.prog 60 #[] w (Ret fun r w' => r = .agg (nums (ordF.map Int.ofNat)).toArray ∧ Own w w' []) := by
  have H := (Own.start w).alloc (.cells #[.int .i64 0, .int .i64 0, .int .i64 0, .int .i64 0, .int .i64 0, .int .i64 0, .int .i64 0, .int .i64 0, .int .i64 0, .int .i64 0, .int .i64 0, .int .i64 0, .int .i64 0, .int .i64 0, .int .i64 0, .int .i64 0, .int .i64 0, .int .i64 0, .int .i64 0] 89)
  go_enter Try.func60, Try.ntmps60
  go_upto_region 1 with (fail)
  generalize w.alloc _ = w1 at *
  generalize w.heap.size = g at *
  go_wp2_with (refine wpList_store_agg (vs := nums (ordF.map Int.ofNat)) (cur' := (nums (ordF.map Int.ofNat)).toArray) rfl _ _ rfl rfl H rfl (by kernel_rfl) (by simp [nums, ordF]) (by simp [nums, ordF, Value.oneCell']) rfl ?_; clear H; intro w5 H)
  refine bodyPost_ret (results_cell1 rfl _ _ g _ rfl (run_loadVar_row w5 g _ _ _ _ _ H.block.1 Try.underlying89 rfl (by kernel_rfl))) rfl ?_
  exact ⟨_, rfl, rfl, H.bare⟩

theorem made_freq (rs : List Run) (k : Nat) (r : Run) (h : rs[k]? = some r) : runFq (rs.take (k + 1)) = bump1 (runFq (rs.take k)) r.sym := by
  unfold runFq
  rw [List.take_add_one, h, List.map_append]
  exact bumpF_snoc _ _ _
theorem runB_succ {ls : List Int} {rs : List Run} {k : Nat} {r : Run} (h : rs[k]? = some r) : runsB ls (rs.take (k + 1)) = runsB ls (rs.take k) ++ runB ls r := by
  unfold runsB
  rw [List.take_add_one, h, List.flatMap_append]
  simp
theorem lensB_succ {l : List Int} {k : Nat} (h : k < l.length) : lensB (l.take (k + 1)) = lensB (l.take k) ++ bitsOf (l.getD k 0) 3 := by
  unfold lensB
  rw [List.take_add_one, getD_get h, List.flatMap_append]
  simp
theorem run_cells {w : World} {b o c i n : Nat} {l : List Run} {r : Run} (h : Rd w 3 (.slice (some ⟨b, o, none⟩) n c) n (rows rcell l)) (ht : l[i]? = some r) :
    w.cell? ⟨b, o + i * 3, none⟩ = some (.int .i64 r.sym) ∧ w.cell? ⟨b, o + i * 3 + 1, none⟩ = some (.int .i64 r.n) ∧ w.cell? ⟨b, o + i * 3 + 2, none⟩ = some (.int .i64 r.v) := by
  have h0 := h.cell ((rows_get rcell rcell_length ht 0 (by omega)).trans rfl)
  have h1 := h.cell ((rows_get rcell rcell_length ht 1 (by omega)).trans rfl)
  have h2 := h.cell ((rows_get rcell rcell_length ht 2 (by omega)).trans rfl)
  exact ⟨h0, h1, h2⟩
end Go.Proofs.Ytljejkdkjnbmhaa
/- A map of the call's own whose elements are ints (0 where there is none): a look-up, a store, a delete. No program in sight. -/
namespace Go.Proofs.Ytljejkdkjnbmhaa
open Go.RowKit Go.Maps
open Go.WideElems (Fit rg)

/-- The entries, as a datum. -/
def mdat (P : Program) (K E : TypeId) (es : Array MapEntry) : DataW Unit := .map ((es.toList.map (rg P K (plainElem (H := Unit) P E))).foldr DataW.insert [])
/-- A map: by its keys (those that a's are), ints; at most n entries. -/
def mpi (P : Program) (K E : TypeId) {α : Type} (enc : α → Value) (b n : Nat) (g : α → Int) : Piece := fun h =>
  ∃ es clock, h = [(b, .map es clock)] ∧ Fit P K (plainElem (H := Unit) P E) es clock ∧ es.size ≤ n ∧ ∀ a kl, keyOf P K (enc a) = some kl → (mdat P K E es).atKey kl (.lit (.int .i64 0)) = .lit (.int .i64 (g a))

section
variable {P : Program} {K E t : TypeId} {α : Type} {enc : α → Value} {b n : Nat} {g : α → Int} {w0 w : World} {ps : List Piece}
theorem Own.mpi_open (h : Own w0 w (mpi P K E enc b n g :: ps)) : ∃ es clock, Fit P K (plainElem (H := Unit) P E) es clock ∧ es.size ≤ n ∧ (∀ a kl, keyOf P K (enc a) = some kl → (mdat P K E es).atKey kl (.lit (.int .i64 0)) = .lit (.int .i64 (g a))) ∧ Own w0 w (blk b (.map es clock) :: ps) := by
  obtain ⟨hb, x, ⟨es, clock, rfl, h1, h2, h3⟩, r⟩ := h
  exact ⟨es, clock, h1, h2, h3, hb, _, rfl, r⟩
theorem Own.mpi_shut {es : Array MapEntry} {clock : Nat} (h1 : Fit P K (plainElem (H := Unit) P E) es clock) (h2 : es.size ≤ n) (h3 : ∀ a kl, keyOf P K (enc a) = some kl → (mdat P K E es).atKey kl (.lit (.int .i64 0)) = .lit (.int .i64 (g a)))
    (h : Own w0 w (blk b (.map es clock) :: ps)) : Own w0 w (mpi P K E enc b n g :: ps) := by
  obtain ⟨hb, x, rfl, r⟩ := h
  exact ⟨hb, _, ⟨es, clock, rfl, h1, h2, h3⟩, r⟩
theorem Own.mpi_new (h : Own w0 w ps) : Own w0 (w.alloc (.map #[] 0)) (mpi P K E enc w.heap.size 0 (fun _ => 0) :: ps) := by
  obtain ⟨es, clock, hb, F, hs, hD⟩ := World.ownsMap_made (H := Unit) w P K (plainElem P E)
  have hb' : (w.alloc (.map #[] 0)).heap[w.heap.size]? = some (.map #[] 0) := heap_alloc_new w _
  rw [hb'] at hb
  cases hb
  refine (h.alloc (.map #[] 0)).mpi_shut F (Nat.le_refl _) fun a kl _ => ?_
  unfold mdat
  rw [← hD]
  rfl
theorem mpi_lookup (h : Own w0 w (mpi P K E enc b n g :: ps)) (hK : Keyed P K) (ht : P.underlying t = some (.map K E)) (he : P.underlying E = some (.int .i64)) (hz : (zeroValue E).run P w = .ok (.int .i64 0) w)
    {a : α} {kl : Lit} (hkey : keyOf P K (enc a) = some kl) : (Instr.lookup t (.map (some b)) (enc a) false).run P w = .ok (.int .i64 (g a)) w := by
  obtain ⟨es, clock, F, hs, hg, h⟩ := h.mpi_open
  have hown : w.ownsMap P K (plainElem (H := Unit) P E) b n (mdat P K E es) := ⟨es, clock, h.block.1, F, hs, rfl⟩
  obtain ⟨c, hrun, hat, _⟩ := hown.lookup_int hK ht he hz hkey
  rw [hg a kl hkey] at hat
  cases hat
  exact hrun
variable [DecidableEq α]
theorem mpi_update (h : Own w0 w (mpi P K E enc b n g :: ps)) (hK : Keyed P K) (ht : P.underlying t = some (.map K E)) (he : P.underlying E = some (.int .i64)) (hn : n < 9223372036854775807) (henc : ∀ x y, enc x = enc y → x = y)
    {a : α} {kl : Lit} (hkey : keyOf P K (enc a) = some kl) {c : Int} (hc : -9223372036854775808 ≤ c ∧ c ≤ 9223372036854775807) :
    ∃ w', (Instr.mapUpdate t (.map (some b)) (enc a) (.int .i64 c)).run P w = .ok () w' ∧ Own w0 w' (mpi P K E enc b (n + 1) (fun x => if x = a then c else g x) :: ps) := by
  obtain ⟨es, clock, F, hs, hg, h⟩ := h.mpi_open
  have hown : w.ownsMap P K (plainElem (H := Unit) P E) b n (mdat P K E es) := ⟨es, clock, h.block.1, F, hs, rfl⟩
  have hwf : (Lit.int .i64 c).wf = true := WalkArith.wf_i64 (by omega)
  obtain ⟨w', hrun, ⟨es', clock', hb', F', hs', hD⟩, hgr⟩ := hown.update hK ht (by unfold maxLen; omega) hkey (plainElem_int he hwf)
  refine ⟨w', hrun, Own.mpi_shut F' hs' (fun x kx hx => ?_) (h.turn hgr.os hgr.tape hgr.output hgr.size hb' fun k hk hne => hgr.block k hk (by simpa using hne))⟩
  show (DataW.map _).atKey kx _ = _
  rw [← hD]
  by_cases hxa : x = a
  · subst hxa
    rw [hkey] at hx
    cases hx
    rw [if_pos rfl]
    exact atKey_put_same ⟨_, rfl⟩ (hK.key hkey) _ _
  · rw [if_neg hxa, atKey_put_other]
    · exact hg x kx hx
    · rintro rfl
      exact hxa (henc _ _ (hK.inj hx hkey))
end

section
variable {P : Program} {K E t : TypeId} {α : Type} {enc : α → Value} {b n : Nat} {g : α → Int} {w0 w : World} {ps : List Piece} [DecidableEq α]
variable {ops : Array Oper} {rest : List Oper} {o : Oper} {act : Act} {Q : Exit → Act → World → Prop}
/-- 'm[k] = v' in a walk. -/
theorem wpList_update_mpi (hgd : o.guard = none) (m x v : Operand) (hop : o.op = .mapUpdate t m x v) (H : Own w0 w (mpi P K E enc b n g :: ps)) (hK : Keyed P K) (ht : P.underlying t = some (.map K E)) (he : P.underlying E = some (.int .i64)) (hn : n < 9223372036854775807) (henc : ∀ x y, enc x = enc y → x = y)
    (hm : act.eval m = .map (some b)) {a : α} (hx : act.eval x = enc a) {kl : Lit} (hkey : keyOf P K (enc a) = some kl) {c : Int} (hv : act.eval v = .int .i64 c) (hc : -9223372036854775808 ≤ c ∧ c ≤ 9223372036854775807)
    (h : ∀ w', Own w0 w' (mpi P K E enc b (n + 1) (fun x => if x = a then c else g x) :: ps) → wpList P ops Q rest (act.put o.dst undef) w') : wpList P ops Q (o :: rest) act w := by
  refine wpList_plain hgd fun K' hK' => ?_
  obtain ⟨w', hrun, h2⟩ := mpi_update H hK ht he hn henc hkey hc
  unfold Oper.wp
  simp [execOp, hop, hm, hx, hv, hrun, Result.andThen]
  exact hK' _ _ (h w' h2)
end
end Go.Proofs.Ytljejkdkjnbmhaa
/- lz: the map's keys, three bytes. -/
namespace Go.Proofs.Ytljejkdkjnbmhaa
open Go.RowKit Go.Maps Go.ChangeShapes Go.WideShapes

/-- Three bytes, as a key. -/
def k3 (k : UInt8 × UInt8 × UInt8) : Value := .agg #[.int .u8 k.1.toNat, .int .u8 k.2.1.toNat, .int .u8 k.2.2.toNat]
set_option maxRecDepth 100000 in
theorem k3_inj (a b : UInt8 × UInt8 × UInt8) (h : k3 a = k3 b) : a = b := by
  obtain ⟨a0, a1, a2⟩ := a
  obtain ⟨b0, b1, b2⟩ := b
  simp only [k3, Value.agg.injEq, Array.mk.injEq, List.cons.injEq, Value.int.injEq, true_and, and_true] at h
  obtain ⟨h0, h1, h2⟩ := h
  have e0 : a0 = b0 := UInt8.toNat_inj.1 (by omega)
  have e1 : a1 = b1 := UInt8.toNat_inj.1 (by omega)
  have e2 : a2 = b2 := UInt8.toNat_inj.1 (by omega)
  rw [e0, e1, e2]
set_option maxRecDepth 100000 in
theorem k3_laidOut : laidOutB Try.prog = true := by kernel_rfl
set_option maxRecDepth 100000 in
theorem k3_row : (104 : TypeId) < Try.prog.types.size := of_decide_eq_true (by kernel_rfl)
set_option maxRecDepth 100000 in
theorem k3_deep : Try.prog.keyTypeAt (Try.prog.types.size + 1) 104 = true := by kernel_rfl
set_option maxRecDepth 100000 in
theorem k3_wide : (match Try.prog.underlying 104 with | some (.array _ _) | some (.struct _) => true | _ => false) = true := by rw [Try.underlying104]
set_option maxRecDepth 100000 in
theorem k3_law : Keyed Try.prog 104 := Keyed.of_law (deep_law_laid k3_laidOut (m := 2) (by omega) k3_row (by kernel_rfl) k3_wide)
set_option maxRecDepth 100000 in
theorem k3_key (w : World) (k : UInt8 × UInt8 × UInt8) : ∃ kl, keyOf Try.prog 104 (k3 k) = some kl := by
  have hc : Try.prog.cellsOf 104 = 3 := by kernel_rfl
  have hc1 : Try.prog.cellsOf 5 = 1 := by kernel_rfl
  have hf : (k3 k).formed Try.prog 104 = true := by simp [k3, Value.formed, Try.underlying104, hc]
  have h0 := k.1.toNat_lt
  have h1 := k.2.1.toNat_lt
  have h2 := k.2.2.toNat_lt
  have w0 : (Lit.int .u8 (k.1.toNat : Int)).wf = true := by simp [Lit.wf, IntKind.min, IntKind.max, IntKind.bits, IntKind.signed]; omega
  have w1 : (Lit.int .u8 (k.2.1.toNat : Int)).wf = true := by simp [Lit.wf, IntKind.min, IntKind.max, IntKind.bits, IntKind.signed]; omega
  have w2 : (Lit.int .u8 (k.2.2.toNat : Int)).wf = true := by simp [Lit.wf, IntKind.min, IntKind.max, IntKind.bits, IntKind.signed]; omega
  have ht : DataW.Trod (H := Unit) (fun _ => ()) Try.prog w 0 (fun _ => true) true 104 (k3 k) (.agg [.lit (.int .u8 k.1.toNat), .lit (.int .u8 k.2.1.toNat), .lit (.int .u8 k.2.2.toNat)]) [] := by
    refine ⟨2, ?_⟩
    simp [DataW.trod, k3, Value.cells, Try.underlying104, Try.underlying5, hc, hc1, w0, w1, w2, List.range, List.range.loop]
  exact ⟨_, (keyOf_asKey k3_deep k3_wide hf ht).1⟩
end Go.Proofs.Ytljejkdkjnbmhaa
/- lz: the walks of the finder's parts that only look. -/
namespace Go.Proofs.Ytljejkdkjnbmhaa
open Go.RowKit

set_option maxRecDepth 100000 in
theorem byt_is {s : ByteArray} {i : Nat} (h : i < s.size) : s[i] = byt s i := by
  unfold byt
  simp [Array.getD, h]
  rfl

set_option maxRecDepth 100000 in
set_option maxHeartbeats 1600000 in
theorem fkey_any {w0 w : World} {ps : List Piece} {g : Nat} {s : ByteArray} {m v : Value} {i : Nat} (H : Own w0 w (blk g (.cells #[.string s, m, v] 75) :: ps)) (hi : i + 3 ≤ s.size) (hs : s.size ≤ 1000000) :
    Calls Try.prog 61 #[.pointer (some ⟨g, 0, none⟩), .int .i64 i] w (Ret fun r w' => r = k3 (key3 s i) ∧ Own w0 w' (blk g (.cells #[.string s, m, v] 75) :: ps)) := by
  obtain ⟨j, hj⟩ : ∃ j, Hid (i + 1 = j) := ⟨_, rfl⟩
  obtain ⟨k, hk⟩ : ∃ k, Hid (i + 2 = k) := ⟨_, rfl⟩
  have h0 : i < s.size := by omega
  have h1 : j < s.size := by have := hj.out; omega
  have h2 : k < s.size := by have := hk.out; omega
  have hI1 : (i : Int) + 1 = (j : Int) := by have := hj.out; omega
  have hI2 : (i : Int) + 2 = (k : Int) := by have := hk.out; omega
  have hw1 : IntKind.i64.wrap (j : Int) = (j : Int) := IntWalk.i64_in _ ⟨by omega, by omega⟩
  have hw2 : IntKind.i64.wrap (k : Int) = (k : Int) := IntWalk.i64_in _ ⟨by omega, by omega⟩
  have e0 := byt_is h0
  have e1 := byt_is h1
  have e2 := byt_is h2
  have hk3 : Hid (k3 (key3 s i) = .agg #[.int .u8 (byt s i).toNat, .int .u8 (byt s j).toNat, .int .u8 (byt s k).toNat]) := Lib.hid (by rw [← hj.out, ← hk.out]; rfl)
  clear hi
  go_enter Try.func61, Try.ntmps61
  go_upto_region 1 with (fail)
  have H1 := H.alloc (.cells #[.int .u8 0, .int .u8 0, .int .u8 0] 104)
  clear H
  generalize hc : w.heap.size = c at *
  generalize w.alloc (.cells #[.int .u8 0, .int .u8 0, .int .u8 0] 104) = wa at *
  refine wp_region_calm (fun w1 => Own w0 w1 (blk c (.cells #[.int .u8 0, .int .u8 0, .int .u8 0] 104) :: blk g (.cells #[.string s, m, v] 75) :: ps)) 21 (by kernel_rfl) (by kernel_rfl) H1.drew ?_
  simp only [List.take_succ_cons, List.take_zero, List.drop_succ_cons, List.drop_zero]
  repeat
    first
    | (refine calm_value (v := ?_) (by decide) rfl (fun σ w1 hS => ?_) ?_
       rotate_left
       · have c0 := hS.swap.cells
         first | (go_simp; rfl) | rfl
       simp only [Act.put, List.setIfInBounds_toArray, List.set_cons_zero, List.set_cons_succ])
    | (refine calm_skip (by decide) rfl ?_
       simp only [Act.put, List.setIfInBounds_toArray, List.set_cons_zero, List.set_cons_succ])
  refine calm_nil ?_
  intro wd HD
  clear H1
  go_wp2_with (first
    | (refine wpList_store_agg rfl _ _ rfl rfl HD rfl (by kernel_rfl) (by simp) (by simp; exact ⟨rfl, rfl, rfl⟩) rfl ?_; clear HD; intro w5 H; have c0 := H.cells))
  refine bodyPost_ret (results_cell_row rfl _ _ c _ _ _ _ rfl H.block.1 Try.underlying104 rfl (by kernel_rfl)) rfl ?_
  exact ⟨_, rfl, by rw [hk3.out]; rfl, H.drop⟩

set_option maxRecDepth 100000 in
set_option maxHeartbeats 1600000 in
theorem fsame_any {w0 w : World} {ps : List Piece} {g : Nat} {s : ByteArray} {m v : Value} {x y : Nat} (H : Own w0 w (blk g (.cells #[.string s, m, v] 75) :: ps)) (hxy : x ≤ y) (hy : y ≤ s.size) (hs : s.size ≤ 1000000) :
    Calls Try.prog 62 #[.pointer (some ⟨g, 0, none⟩), .int .i64 x, .int .i64 y] w (Ret fun r w' => r = .int .i64 (comm s x y) ∧ Own w0 w' (blk g (.cells #[.string s, m, v] 75) :: ps)) := by
  go_enter Try.func62, Try.ntmps62
  go_wp2_with fail
  go_loopw [7] (fun s7 wr => ∃ n : Nat, s7 = .int .i64 n ∧ n ≤ 258 ∧ Hid (∀ j, j < n → y + j < s.size ∧ byt s (x + j) = byt s (y + j)) ∧ Own w0 wr (blk g (.cells #[.string s, m, v] 75) :: ps)) (fun s7 _ => 258 - (intOf s7).toNat)
  case atStart => exact ⟨0, by simp, by omega, Lib.hid (fun j hj => by omega), H⟩
  case round =>
    clear H
    obtain ⟨n, rfl, hn, hall, H⟩ := hrel
    by_cases h1 : n < 258
    · have h1I : (n : Int) < 258 := by omega
      obtain ⟨q, hq⟩ : ∃ q, Hid (y + n = q) := ⟨_, rfl⟩
      obtain ⟨p, hp⟩ : ∃ p, Hid (x + n = p) := ⟨_, rfl⟩
      have hqI : (y : Int) + (n : Int) = (q : Int) := by have := hq.out; omega
      have hpI : (x : Int) + (n : Int) = (p : Int) := by have := hp.out; omega
      have hqm : q ≤ 2000000 := by have := hq.out; omega
      have hpq : p ≤ q := by have := hq.out; have := hp.out; omega
      have hw1 : IntKind.i64.wrap (q : Int) = (q : Int) := IntWalk.i64_in _ ⟨by omega, by omega⟩
      have hw2 : IntKind.i64.wrap (p : Int) = (p : Int) := IntWalk.i64_in _ ⟨by omega, by omega⟩
      by_cases h2 : q < s.size
      · have h2I : (q : Int) < (s.size : Int) := by omega
        have h3 : p < s.size := by omega
        have e0 := byt_is h2
        have e1 := byt_is h3
        obtain ⟨t, ht⟩ : ∃ t, Hid (decide (byt s p = byt s q) = t) := ⟨_, rfl⟩
        have htI : (((byt s p).toNat : Int) == ((byt s q).toNat : Int)) = t := by
          rw [← ht.out]
          by_cases hb : byt s p = byt s q
          · simp [hb]
          · have : (byt s p).toNat ≠ (byt s q).toNat := fun h => hb (UInt8.toNat_inj.1 h)
            simp [hb]
            omega
        go_upto_region 2 with (fail)
        refine wp_region_calm (fun w1 => Own w0 w1 (blk g (.cells #[.string s, m, v] 75) :: ps)) 32 (by kernel_rfl) (by kernel_rfl) H.drew ?_
        simp only [List.take_succ_cons, List.take_zero, List.drop_succ_cons, List.drop_zero]
        repeat
          first
          | (refine calm_value (v := ?_) (by decide) rfl (fun σ w1 hS => ?_) ?_
             rotate_left
             · have c0 := hS.cells
               first | (go_simp; rfl) | rfl
             simp only [Act.put, List.setIfInBounds_toArray, List.set_cons_zero, List.set_cons_succ])
          | (refine calm_skip (by decide) rfl ?_
             simp only [Act.put, List.setIfInBounds_toArray, List.set_cons_zero, List.set_cons_succ])
        refine calm_nil ?_
        intro wd HD
        clear H
        cases t with
        | true =>
          have hb : byt s p = byt s q := by simpa using ht.out
          have hall' : Hid (∀ j, j < n + 1 → y + j < s.size ∧ byt s (x + j) = byt s (y + j)) := Lib.hid (by
            intro j hj
            by_cases hjn : j = n
            · subst hjn
              rw [hq.out, hp.out]
              exact ⟨h2, hb⟩
            · exact hall.out j (by omega))
          clear hb ht htI
          go_wp2
          go_roundw
          case rel => exact ⟨n + 1, by go_num, by omega, hall', HD⟩
          case measure => simp [intOf]; omega
        | false =>
          have hfin : Hid (comm s x y = n) := Lib.hid (comm_is (by omega) hall.out (.inr (by rw [hq.out, hp.out]; intro h; have := ht.out; simp at this; exact this h.2)))
          clear ht htI
          go_wp2
          go_ret
          exact ⟨_, rfl, by rw [hfin.out]; rfl, HD⟩
      · have h2I : ¬ (q : Int) < (s.size : Int) := by omega
        have hfin : Hid (comm s x y = n) := Lib.hid (comm_is (by omega) hall.out (.inr (by rw [hq.out]; intro h; exact h2 h.1)))
        go_upto_region 2 with (fail)
        refine wp_region_calm (fun w1 => Own w0 w1 (blk g (.cells #[.string s, m, v] 75) :: ps)) 32 (by kernel_rfl) (by kernel_rfl) H.drew ?_
        simp only [List.take_succ_cons, List.take_zero, List.drop_succ_cons, List.drop_zero]
        repeat
          first
          | (refine calm_value (v := ?_) (by decide) rfl (fun σ w1 hS => ?_) ?_
             rotate_left
             · have c0 := hS.cells
               first | (go_simp; rfl) | rfl
             simp only [Act.put, List.setIfInBounds_toArray, List.set_cons_zero, List.set_cons_succ])
          | (refine calm_skip (by decide) rfl ?_
             simp only [Act.put, List.setIfInBounds_toArray, List.set_cons_zero, List.set_cons_succ])
        refine calm_nil ?_
        intro wd HD
        clear H
        go_wp2
        go_ret
        exact ⟨_, rfl, by rw [hfin.out]; rfl, HD⟩
    · have h1I : ¬ (n : Int) < 258 := by omega
      have hfin : Hid (comm s x y = n) := Lib.hid (comm_is (by omega) hall.out (.inl (by omega)))
      go_upto_region 2 with (fail)
      refine wp_region_calm (fun w1 => Own w0 w1 (blk g (.cells #[.string s, m, v] 75) :: ps)) 32 (by kernel_rfl) (by kernel_rfl) H.drew ?_
      simp only [List.take_succ_cons, List.take_zero, List.drop_succ_cons, List.drop_zero]
      repeat
        first
        | (refine calm_value (v := ?_) (by decide) rfl (fun σ w1 hS => ?_) ?_
           rotate_left
           · have c0 := hS.cells
             first | (go_simp; rfl) | rfl
           simp only [Act.put, List.setIfInBounds_toArray, List.set_cons_zero, List.set_cons_succ])
        | (refine calm_skip (by decide) rfl ?_
           simp only [Act.put, List.setIfInBounds_toArray, List.set_cons_zero, List.set_cons_succ])
      refine calm_nil ?_
      intro wd HD
      clear H
      go_wp2
      go_ret
      exact ⟨_, rfl, by rw [hfin.out]; rfl, HD⟩

end Go.Proofs.Ytljejkdkjnbmhaa
/- A look-up in a map of ints, in a region that draws its order. -/
namespace Go.Proofs.Ytljejkdkjnbmhaa
open Go.RowKit Go.Maps

section
variable {P : Program} {ops : Array Oper} {S : Sig → World → Prop} {nw : List Nat} {R : Act → Prop} {a : Act} {o : Oper} {rest : List Oper} {i : Nat}
variable {K E t : TypeId} {α : Type} {enc : α → Value} {b n : Nat} {g : α → Int} {w0 : World}
theorem calm_lookup (m x : Operand) (hi : i ∉ nw) (hw : Region.wanted o (yielded ops a.tmps) = true) (ho : o.op = .lookup t m x false) (hm : a.eval m = .map (some b)) {k : α} (hx : a.eval x = enc k)
    (hS : ∀ σ w, S σ w → ∃ ps, Own w0 w (mpi P K E enc b n g :: ps)) (hK : Keyed P K) (ht : P.underlying t = some (.map K E)) (he : P.underlying E = some (.int .i64)) (hz : ∀ w, (zeroValue E).run P w = .ok (.int .i64 0) w)
    {kl : Lit} (hkey : keyOf P K (enc k) = some kl)
    (h : calm P ops S nw R (i + 1) rest (a.put o.dst (.int .i64 (g k)))) : calm P ops S nw R i (o :: rest) a :=
  calm_value hi hw (fun σ w hs => by
    obtain ⟨ps, H⟩ := hS σ w hs
    have hr := mpi_lookup H hK ht he (hz w) hkey
    simp [execOp, ho, hm, hx, hr]) h
theorem Own.mpi_mono {w : World} {ps : List Piece} {m : Nat} (h : Own w0 w (mpi P K E enc b n g :: ps)) (hm : n ≤ m) : Own w0 w (mpi P K E enc b m g :: ps) :=
  h.imp fun _ ⟨es, clock, h1, h2, h3, h4⟩ => ⟨es, clock, h1, h2, by omega, h4⟩
end
end Go.Proofs.Ytljejkdkjnbmhaa
/- lz: the walks of put and find. -/
namespace Go.Proofs.Ytljejkdkjnbmhaa
open Go.RowKit Go.Maps

/-- What the map has. -/
def gOf (s : ByteArray) (i : Nat) : UInt8 × UInt8 × UInt8 → Int := fun k => (prev s k i : Int)
set_option maxRecDepth 100000 in
theorem gOf_zero (s : ByteArray) : gOf s 0 = fun _ => 0 := rfl
set_option maxRecDepth 100000 in
theorem gOf_put {s : ByteArray} {i : Nat} (h : i + 3 ≤ s.size) : gOf s (i + 1) = fun x => if x = key3 s i then (i : Int) + 1 else gOf s i x := by
  funext x
  unfold gOf
  rw [prev]
  by_cases hx : x = key3 s i
  · subst hx
    rw [if_pos ⟨h, rfl⟩, if_pos rfl]
    omega
  · rw [if_neg (fun hh => hx hh.2.symm), if_neg hx]
set_option maxRecDepth 100000 in
theorem gOf_skip {s : ByteArray} {i : Nat} (h : ¬ i + 3 ≤ s.size) : gOf s (i + 1) = gOf s i := by
  funext x
  unfold gOf
  rw [prev, if_neg (fun hh => h hh.1)]
structure Backs (s : ByteArray) (i : Nat) (xs : List Int) : Prop where
  len : xs.length = s.size
  get : ∀ q, q < i → q + 3 ≤ s.size → xs[q]? = some (prev s (key3 s q) q : Int)
set_option maxRecDepth 100000 in
theorem Backs.put {s : ByteArray} {i : Nat} {xs : List Int} (h : Backs s i xs) (hi : i + 3 ≤ s.size) : Backs s (i + 1) (xs.set i (prev s (key3 s i) i : Int)) := by
  refine ⟨by simpa using h.len, fun q h1 h2 => ?_⟩
  have hl := h.len
  rw [List.getElem?_set]
  by_cases hq : i = q
  · subst hq
    rw [if_pos rfl, if_pos (by omega)]
  · rw [if_neg hq]
    exact h.get q (by omega) h2
set_option maxRecDepth 100000 in
theorem Backs.skip {s : ByteArray} {i : Nat} {xs : List Int} (h : Backs s i xs) (hi : ¬ i + 3 ≤ s.size) : Backs s (i + 1) xs :=
  ⟨h.len, fun q h1 h2 => h.get q (by omega) h2⟩
/-- A finder that noted the places ahead of i. -/
def Fnd (g : Nat) (s : ByteArray) (i : Nat) : Piece := ex fun p : Nat × Value × List Int =>
  star (blk g (.cells #[.string s, .map (some p.1), p.2.1] 75)) (star (mpi Try.prog 104 3 k3 p.1 i (gOf s i)) (star (slc 3 1 p.2.1 s.size (nums p.2.2)) (fact (Backs s i p.2.2))))
section
variable {w0 w : World} {ps : List Piece} {g b i : Nat} {s : ByteArray} {xs : List Int} {v : Value}
set_option maxRecDepth 100000 in
theorem fnd_open (h : Own w0 w (Fnd g s i :: ps)) : ∃ b v xs, Backs s i xs ∧ Own w0 w (blk g (.cells #[.string s, .map (some b), v] 75) :: mpi Try.prog 104 3 k3 b i (gOf s i) :: slc 3 1 v s.size (nums xs) :: ps) := by
  obtain ⟨⟨b, v, xs⟩, h⟩ := h.ex
  have h := h.star.swap.star.swap.star.swap.fact
  exact ⟨b, v, xs, h.1, (h.2.swap.front 2 rfl)⟩
set_option maxRecDepth 100000 in
theorem fnd_shut (hb : Backs s i xs) (h : Own w0 w (blk g (.cells #[.string s, .map (some b), v] 75) :: mpi Try.prog 104 3 k3 b i (gOf s i) :: slc 3 1 v s.size (nums xs) :: ps)) : Own w0 w (Fnd g s i :: ps) :=
  Own.unex (f := fun p : Nat × Value × List Int => Go.Proofs.Ytljejkdkjnbmhaa.star (blk g (.cells #[.string s, .map (some p.1), p.2.1] 75)) (Go.Proofs.Ytljejkdkjnbmhaa.star (mpi Try.prog 104 3 k3 p.1 i (gOf s i)) (Go.Proofs.Ytljejkdkjnbmhaa.star (slc 3 1 p.2.1 s.size (nums p.2.2)) (Go.Proofs.Ytljejkdkjnbmhaa.fact (Backs s i p.2.2))))) (b, v, xs)
    ((((h.front 2 rfl).unfact hb).swap.unstar.front 2 rfl).unstar.swap.unstar)
end
set_option maxRecDepth 100000 in
theorem intZero : ∀ w, (zeroValue 3).run Try.prog w = .ok (.int .i64 0) w := fun w => by kernel_rfl

set_option maxRecDepth 100000 in
set_option maxHeartbeats 1600000 in
theorem fput_any {w0 w : World} {ps : List Piece} {g i : Nat} {s : ByteArray} (H : Own w0 w (Fnd g s i :: ps)) (hi : i < s.size) (hs : s.size ≤ 1000000) :
    Calls Try.prog 41 #[.pointer (some ⟨g, 0, none⟩), .int .i64 i] w (Ret fun _ w' => Own w0 w' (Fnd g s (i + 1) :: ps)) := by
  obtain ⟨b, v, xs, hb, H⟩ := fnd_open H
  have c0 := H.cells
  obtain ⟨z, hz⟩ : ∃ z, Hid (s.size = z) := ⟨_, rfl⟩
  by_cases h3 : i + 3 ≤ s.size
  · have h3I : (i : Int) + 3 ≤ (s.size : Int) := by omega
    have HB := Lib.hid (hb.put h3)
    clear hb
    obtain ⟨kl, hkl⟩ := k3_key w (key3 s i)
    have HK := Lib.hid hkl
    clear hkl
    obtain ⟨rb, c, rfl, hc1, hc2, _⟩ := (H.front 2 rfl).at (by rw [nums_length]; have := HB.out.len; simp at this; omega)
    go_enter Try.func41, Try.ntmps41
    go_wp2_with fail
    refine (fkey_any H h3 hs).mono ?_
    rintro e w1 ⟨_, rfl, rfl, H1⟩
    clear H c0
    obtain ⟨x0, x1, x2, hk⟩ : ∃ x0 x1 x2 : Int, Hid (k3 (key3 s i) = .agg #[.int .u8 x0, .int .u8 x1, .int .u8 x2]) := ⟨_, _, _, Lib.hid rfl⟩
    rw [hk.out]
    have hupd := Lib.hid (gOf_put h3)
    have hlk : Hid (gOf s i (key3 s i) = (prev s (key3 s i) i : Int)) := Lib.hid rfl
    obtain ⟨pv, hpv⟩ : ∃ pv, Hid (prev s (key3 s i) i = pv) := ⟨_, rfl⟩
    rw [hpv.out] at HB hlk
    obtain ⟨G, hG⟩ : ∃ G, Hid (gOf s i = G) := ⟨_, rfl⟩
    have hG' := hG.out
    rw [hG'] at H1 hupd hlk
    clear hG'
    have c0 := H1.cells
    go_upto_region 2 with (refine wpList_store_agg rfl _ _ rfl rfl (H1.alloc _) rfl (by kernel_rfl) (by simp) (by simp; exact ⟨rfl, rfl, rfl⟩) rfl ?_; clear H1 c0; intro w5 H)
    generalize w1.heap.size = kb at *
    refine wp_region_calm (fun w1 => Own w0 w1 (blk kb (.cells #[.int .u8 x0, .int .u8 x1, .int .u8 x2] 104) :: blk g (.cells #[.string s, .map (some b), .slice (some ⟨rb, 0, none⟩) s.size c] 75) :: mpi Try.prog 104 3 k3 b i G :: slc 3 1 (.slice (some ⟨rb, 0, none⟩) s.size c) s.size (nums xs) :: ps)) 12 (by kernel_rfl) (by kernel_rfl) H.drew ?_
    simp only [List.take_succ_cons, List.take_zero, List.drop_succ_cons, List.drop_zero]
    repeat
      first
      | (refine calm_value (v := ?_) (by decide) rfl (fun σ w1 hS => ?_) ?_
         rotate_left
         · have c0 := hS.swap.cells; have c1 := hS.cells
           first | (go_simp; rfl) | rfl
         simp only [Act.put, List.setIfInBounds_toArray, List.set_cons_zero, List.set_cons_succ])
      | (refine calm_skip (by decide) rfl ?_
         simp only [Act.put, List.setIfInBounds_toArray, List.set_cons_zero, List.set_cons_succ])
    refine calm_lookup (b := b) (n := i) (g := G) (w0 := w0) (k := key3 s i) _ _ (by decide) rfl rfl rfl ?_ (fun σ w hS => ⟨_, (hS.front 2 rfl)⟩) k3_law Try.underlying73 Try.underlying3 intZero HK.out ?_
    · exact hk.out.symm
    repeat
      first
      | (refine calm_value (v := ?_) (by decide) rfl (fun σ w1 hS => ?_) ?_
         rotate_left
         · have c0 := hS.swap.cells; have c1 := hS.cells
           first | (go_simp; rfl) | rfl
         simp only [Act.put, List.setIfInBounds_toArray, List.set_cons_zero, List.set_cons_succ])
      | (refine calm_skip (by decide) rfl ?_
         simp only [Act.put, List.setIfInBounds_toArray, List.set_cons_zero, List.set_cons_succ])
    refine calm_nil ?_
    intro wd HD
    clear H
    rw [hlk.out]
    go_upto_region 3 with (refine wpList_store_slc rfl _ _ rfl (j := i) rfl (HD.front 3 rfl) (.int .i64 pv) rfl (by kernel_rfl) (by omega) rfl ?_; clear HD; intro w6 H)
    have hw1 : IntKind.i64.wrap ((i : Int) + 1) = (i : Int) + 1 := IntWalk.i64_in _ ⟨by omega, by omega⟩
    have hset : (nums xs).set i (.int .i64 (pv : Int)) = nums (xs.set i (pv : Int)) := by simp [nums, List.map_set]
    rw [hset] at H
    have H : Own w0 w6 (blk kb (.cells #[.int .u8 x0, .int .u8 x1, .int .u8 x2] 104) :: blk g (.cells #[.string s, .map (some b), .slice (some ⟨rb, 0, none⟩) s.size c] 75) :: mpi Try.prog 104 3 k3 b i G :: slc 3 1 (.slice (some ⟨rb, 0, none⟩) s.size c) s.size (nums (xs.set i (pv : Int))) :: ps) := (((((H.front 3 rfl).front 3 rfl).front 3 rfl)))
    refine wp_region_calm (fun w1 => Own w0 w1 (blk kb (.cells #[.int .u8 x0, .int .u8 x1, .int .u8 x2] 104) :: blk g (.cells #[.string s, .map (some b), .slice (some ⟨rb, 0, none⟩) s.size c] 75) :: mpi Try.prog 104 3 k3 b i G :: slc 3 1 (.slice (some ⟨rb, 0, none⟩) s.size c) s.size (nums (xs.set i (pv : Int))) :: ps)) 7 (by kernel_rfl) (by kernel_rfl) H.drew ?_
    simp only [List.take_succ_cons, List.take_zero, List.drop_succ_cons, List.drop_zero]
    repeat
      first
      | (refine calm_value (v := ?_) (by decide) rfl (fun σ w1 hS => ?_) ?_
         rotate_left
         · have c0 := hS.swap.cells; have c1 := hS.cells
           first | (go_simp; rfl) | rfl
         simp only [Act.put, List.setIfInBounds_toArray, List.set_cons_zero, List.set_cons_succ])
      | (refine calm_skip (by decide) rfl ?_
         simp only [Act.put, List.setIfInBounds_toArray, List.set_cons_zero, List.set_cons_succ])
    refine calm_nil ?_
    intro wd2 HD
    clear H
    refine wpList_update_mpi (K := 104) (E := 3) (enc := k3) rfl _ _ _ rfl (HD.front 2 rfl) k3_law Try.underlying73 Try.underlying3 (by omega) k3_inj rfl (a := key3 s i) hk.out.symm HK.out (c := (i : Int) + 1) rfl (by omega) ?_
    clear HD
    intro w7 H
    rw [← hupd.out] at H
    go_wp2
    go_end0
    exact ⟨_, rfl, fnd_shut (b := b) (v := .slice (some ⟨rb, 0, none⟩) s.size c) HB.out ((((H.front 2 rfl).front 2 rfl).drop))⟩
  · have h3I : ¬ (i : Int) + 3 ≤ (s.size : Int) := by omega
    have HB := Lib.hid (hb.skip h3)
    clear hb
    go_enter Try.func41, Try.ntmps41
    go_wp2
    go_end0
    refine ⟨_, rfl, fnd_shut (b := b) (v := v) HB.out ?_⟩
    rw [gOf_skip h3]
    exact (H.swap.mpi_mono (Nat.le_succ i)).swap
end Go.Proofs.Ytljejkdkjnbmhaa
/- lz: the walk of find. -/
namespace Go.Proofs.Ytljejkdkjnbmhaa
open Go.RowKit Go.Maps

set_option maxRecDepth 100000 in
set_option maxHeartbeats 3200000 in
theorem lzfind_any {w0 w : World} {ps : List Piece} {g i : Nat} {s : ByteArray} (H : Own w0 w (Fnd g s i :: ps)) (hi : i < s.size) (hs : s.size ≤ 1000000) :
    Calls Try.prog 40 #[.pointer (some ⟨g, 0, none⟩), .int .i64 i] w (Ret fun r w' => r = .tuple #[.int .i64 (found s i).1, .int .i64 (found s i).2] ∧ Own w0 w' (Fnd g s i :: ps)) := by
  have H0 := H
  obtain ⟨b, v, xs, hb, H⟩ := fnd_open H
  have hw3 : IntKind.i64.wrap ((i : Int) + 3) = (i : Int) + 3 := IntWalk.i64_in _ ⟨by omega, by omega⟩
  by_cases h3 : i + 3 ≤ s.size
  · have h3I : ¬ (s.size : Int) < (i : Int) + 3 := by omega
    have HB := Lib.hid hb
    clear hb H0
    obtain ⟨kl, hkl⟩ := k3_key w (key3 s i)
    have HK := Lib.hid hkl
    clear hkl
    obtain ⟨rb, c, rfl, hc1, hc2, _⟩ := (H.front 2 rfl).at (by rw [nums_length]; have := HB.out.len; omega)
    obtain ⟨F, hF⟩ : ∃ F, Hid (found s i = F) := ⟨_, rfl⟩
    rw [hF.out]
    obtain ⟨k0, hk0⟩ : ∃ k0, Hid (k3 (key3 s i) = k0) := ⟨_, rfl⟩
    have hlk : Hid (gOf s i (key3 s i) = (prev s (key3 s i) i : Int)) := Lib.hid rfl
    obtain ⟨pv, hpv⟩ : ∃ pv, Hid (prev s (key3 s i) i = pv) := ⟨_, rfl⟩
    rw [hpv.out] at hlk
    obtain ⟨G, hG⟩ : ∃ G, Hid (gOf s i = G) := ⟨_, rfl⟩
    have hG' := hG.out
    rw [hG'] at H hlk
    clear hG'
    obtain ⟨X, hX⟩ : ∃ X, Hid (nums xs = X) := ⟨_, rfl⟩
    rw [hX.out] at H
    have c0 := H.cells
    go_enter Try.func40, Try.ntmps40
    go_upto_region 4 with (fail)
    clear c0
    refine wp_region_calm (fun w1 => Own w0 w1 (blk g (.cells #[.string s, .map (some b), .slice (some ⟨rb, 0, none⟩) s.size c] 75) :: mpi Try.prog 104 3 k3 b i G :: slc 3 1 (.slice (some ⟨rb, 0, none⟩) s.size c) s.size X :: ps)) 9 (by kernel_rfl) (by kernel_rfl) H.drew ?_
    simp only [List.take_succ_cons, List.take_zero, List.drop_succ_cons, List.drop_zero]
    repeat
      first
      | (refine calm_value (v := ?_) (by decide) rfl (fun σ w1 hS => ?_) ?_
         rotate_left
         · have c0 := hS.cells
           first | (go_simp; rfl) | rfl
         simp only [Act.put, List.setIfInBounds_toArray, List.set_cons_zero, List.set_cons_succ])
      | (refine calm_skip (by decide) rfl ?_
         simp only [Act.put, List.setIfInBounds_toArray, List.set_cons_zero, List.set_cons_succ])
    refine calm_call (v := k0) (by decide) rfl (fun w1 => (by go_simp; first | exact ⟨rfl, rfl⟩ | rfl)) (fun σ w1 hS => ?_) ?_
    · refine (fkey_any hS h3 hs).mono ?_
      rintro e w2 ⟨_, rfl, rfl, h2⟩
      exact ⟨by rw [hk0.out], h2⟩
    simp only [Act.put, List.setIfInBounds_toArray, List.set_cons_zero, List.set_cons_succ]
    refine calm_lookup (b := b) (n := i) (g := G) (w0 := w0) (k := key3 s i) _ _ (by decide) rfl rfl rfl ?_ (fun σ w hS => ⟨_, (hS.front 1 rfl)⟩) k3_law Try.underlying73 Try.underlying3 intZero HK.out ?_
    · exact hk0.out.symm
    rw [hlk.out]
    repeat
      first
      | (refine calm_value (v := ?_) (by decide) rfl (fun σ w1 hS => ?_) ?_
         rotate_left
         · have c0 := hS.cells
           first | (go_simp; rfl) | rfl
         simp only [Act.put, List.setIfInBounds_toArray, List.set_cons_zero, List.set_cons_succ])
      | (refine calm_skip (by decide) rfl ?_
         simp only [Act.put, List.setIfInBounds_toArray, List.set_cons_zero, List.set_cons_succ])
    refine calm_nil ?_
    intro wd HD
    clear H
    have hseen : Hid (seen s i pv = (0, 0)) := Lib.hid (by rw [← hpv.out, seen_skip (Nat.le_refl i), seen_start])
    have hpvi : pv ≤ i := by rw [← hpv.out]; exact prev_le ..
    have hpvk : Hid (0 < pv → key3 s (pv - 1) = key3 s i) := Lib.hid (fun h => by rw [← hpv.out] at h ⊢; exact (prev_key i h).1)
    obtain ⟨Z, hZ⟩ : ∃ Z, Hid (s.size = Z) := ⟨_, rfl⟩
    clear hpv hlk
    go_wp2_with fail
    go_loopw [6, 7, 8] (fun s6 s7 s8 wr => ∃ l d p : Nat, s6 = .int .i64 l ∧ s7 = .int .i64 d ∧ s8 = .int .i64 p ∧ p ≤ i ∧ Hid (seen s i p = (l, d)) ∧ Hid (0 < p → key3 s (p - 1) = key3 s i) ∧ Own w0 wr (blk g (.cells #[.string s, .map (some b), .slice (some ⟨rb, 0, none⟩) s.size c] 75) :: mpi Try.prog 104 3 k3 b i G :: slc 3 1 (.slice (some ⟨rb, 0, none⟩) s.size c) s.size X :: ps)) (fun _ _ s8 _ => (intOf s8).toNat)
    case atStart => exact ⟨0, 0, pv, by simp, by simp, by simp, hpvi, hseen, hpvk, HD⟩
    case round =>
      clear HD hpvi hpvk hseen
      obtain ⟨l, d, p, rfl, rfl, rfl, hpi, hsn, hpk, H⟩ := hrel
      by_cases hp0 : p = 0
      · subst hp0
        have hend : Hid (F = (l, d)) := Lib.hid (by rw [← hsn.out, ← hF.out]; exact (seen_end hpi (.inl rfl)).symm)
        clear hpk hsn
        go_wp2
        go_ret2
        refine ⟨_, rfl, by rw [hend.out]; rfl, fnd_shut (b := b) (v := .slice (some ⟨rb, 0, none⟩) s.size c) HB.out ?_⟩
        rw [hG.out, hX.out]
        exact H
      · obtain ⟨q, rfl⟩ : ∃ q, p = q + 1 := ⟨p - 1, by omega⟩
        clear hp0
        have hpc : ((q + 1 : Nat) : Int) = (q : Int) + 1 := by omega
        rw [hpc]
        have hk := Lib.hid (hpk.out (Nat.succ_pos q))
        have e1 : q + 1 - 1 = q := rfl
        have hk' := hk.out
        rw [e1] at hk'
        clear hk hpk
        by_cases hwin : i - q ≤ 4096
        · have hwI : (i : Int) - (q : Int) ≤ 4096 := by omega
          have hhit := seen_hit (s := s) (p := q + 1) (Nat.succ_pos q) hpi (by rw [e1]; exact hwin) (by rw [e1]; exact hk') h3
          rw [e1, hsn.out] at hhit
          have hcm := comm_le s q i
          obtain ⟨n, hn⟩ : ∃ n, Hid (comm s q i = n) := ⟨_, rfl⟩
          rw [hn.out] at hhit hcm
          have hnx := seen_skip (s := s) (at_ := i) (m := q) (by omega)
          have hpl := prev_le s (key3 s i) q
          have hpq : 0 < prev s (key3 s i) q → key3 s (prev s (key3 s i) q - 1) = key3 s i := fun h => (prev_key q h).1
          have hXq : X[q]? = some (.int .i64 (prev s (key3 s i) q : Nat)) := by
            rw [← hX.out]
            refine nums_get ?_
            rw [← hk']
            exact HB.out.get q (by omega) (by omega)
          rw [hhit] at hnx
          obtain ⟨p2, hp2⟩ : ∃ p2, Hid (prev s (key3 s i) q = p2) := ⟨_, rfl⟩
          rw [hp2.out] at hnx hpl hpq hXq
          have HX := Lib.hid hXq
          have HN := Lib.hid hnx
          have HP := Lib.hid hpq
          clear hXq hnx hpq hhit hsn hk' e1
          have c0 := H.cells
          have hqi : q < i := by omega
          by_cases hln : l < n
          · have HN' : Hid (seen s i p2 = (n, i - q)) := Lib.hid (by rw [HN.out, if_pos hln])
            have hlnI : (l : Int) < (n : Int) := by omega
            go_wp2_with fail
            refine (fsame_any H (show q ≤ i by omega) (by omega) hs).mono ?_
            rintro e w1 ⟨_, rfl, rfl, H1⟩
            rw [hn.out]
            clear H c0
            have c0 := H1.cells
            have c1 := (H1.front 2 rfl).rd.cell HX.out
            rw [Nat.zero_add] at c1
            go_wp2_with fail
            go_roundw
            case rel => exact ⟨n, i - q, p2, by go_num, by simp; omega, by go_num, by omega, HN', HP, H1⟩
            case measure => simp [intOf]; omega
          · have HN' : Hid (seen s i p2 = (l, d)) := Lib.hid (by rw [HN.out, if_neg hln])
            have hlnI : ¬ (l : Int) < (n : Int) := by omega
            go_wp2_with fail
            refine (fsame_any H (show q ≤ i by omega) (by omega) hs).mono ?_
            rintro e w1 ⟨_, rfl, rfl, H1⟩
            rw [hn.out]
            clear H c0
            have c0 := H1.cells
            have c1 := (H1.front 2 rfl).rd.cell HX.out
            rw [Nat.zero_add] at c1
            go_wp2_with fail
            go_roundw
            case rel => exact ⟨l, d, p2, by go_num, by go_num, by go_num, by omega, HN', HP, H1⟩
            case measure => simp [intOf]; omega
        · have hwI : ¬ (i : Int) - (q : Int) ≤ 4096 := by omega
          have hend : Hid (F = (l, d)) := Lib.hid (by rw [← hsn.out, ← hF.out]; exact (seen_end hpi (.inr (by omega))).symm)
          clear hsn hk' e1
          go_wp2
          go_ret2
          refine ⟨_, rfl, by rw [hend.out]; rfl, fnd_shut (b := b) (v := .slice (some ⟨rb, 0, none⟩) s.size c) HB.out ?_⟩
          rw [hG.out, hX.out]
          exact H
  · have h3I : (s.size : Int) < (i : Int) + 3 := by omega
    have hf := Lib.hid (found_none (s := s) (at_ := i) (by omega))
    have c0 := H.cells
    go_enter Try.func40, Try.ntmps40
    go_wp2
    go_ret2
    exact ⟨_, rfl, by rw [hf.out]; rfl, H0⟩
end Go.Proofs.Ytljejkdkjnbmhaa
