/-
  The stable sort of slices of coins: the walk of symMerge. (Written by tools/srt.py.)
-/
import Derived.Test.YtfeamlbkogigkaaSrtC6
namespace Go.Proofs.Ytfeamlbkogigkaa
open Go.RowKit
namespace SC
theorem srt_le {α : Type} {key : α → Int} {l : List α} (h : Srt key l) {i j : Nat} {u v : α} (hu : l[i]? = some u) (hv : l[j]? = some v) (hij : i ≤ j) : key u ≤ key v := by
  obtain ⟨h1, rfl⟩ := List.getElem?_eq_some_iff.1 hu
  obtain ⟨h2, rfl⟩ := List.getElem?_eq_some_iff.1 hv
  rcases Nat.lt_or_eq_of_le hij with h3 | h3
  · exact List.pairwise_iff_getElem.1 h i j h1 h2 h3
  · subst h3; exact Int.le_refl _
section
variable {w0 : World} {ps : List Piece} {ok : Coin → Prop} {key : Coin → Int} {B : Nat}
set_option maxRecDepth 100000 in
set_option maxHeartbeats 12800000 in
theorem sym_any {g c N : Nat} (hcmp : Cmps w0 ps B ok key) (hNb : N ≤ 1000000) : ∀ (f : Nat), SymAt w0 ps ok key B g c N f := by
  intro f
  induction f with
  | zero => intro w p x y q a m b hf _ _ _ _ _ _ _ h1 _ _ _; omega
  | succ f ih =>
  intro w p x y q a m b hf hokx hoky hsx hsy ha hm hb hx0 hy0 hN H
  by_cases hx1 : x.length = 1
  · obtain ⟨u, rfl⟩ := List.length_eq_one_iff.1 hx1
    exact symL_any hcmp (hokx u (by simp)) hoky hsy ha (by simpa using hm) hb hN hNb H
  by_cases hy1 : y.length = 1
  · obtain ⟨u, rfl⟩ := List.length_eq_one_iff.1 hy1
    exact symR_any hcmp (hoky u (by simp)) hokx hsx (by omega) ha hm (by simpa using hb) hN hNb H
  have hbN : b ≤ N := by rw [hN]; simp only [List.length_append]; omega
  have hNc : N ≤ c := by obtain ⟨_, _, e, h1, _⟩ := H.rd.shape; cases e; exact h1
  have hc2 : c ≤ 9223372036854775807 := by obtain ⟨_, _, e, _, h1⟩ := H.rd.shape; cases e; exact h1
  have hgx : ∀ (t : Nat) v, x[t]? = some v → (p ++ x ++ y ++ q)[a + t]? = some v := by
    intro t v hv
    have : p ++ x ++ y ++ q = p ++ (x ++ (y ++ q)) := by simp
    rw [this, List.getElem?_append_right (by omega), List.getElem?_append_left (by have := (List.getElem?_eq_some_iff.1 hv).1; omega)]
    rw [show a + t - p.length = t by omega]
    exact hv
  have hgy : ∀ (t : Nat) v, y[t]? = some v → (p ++ x ++ y ++ q)[m + t]? = some v := by
    intro t v hv
    have : p ++ x ++ y ++ q = (p ++ x) ++ (y ++ q) := by simp
    rw [this, List.getElem?_append_right (by rw [List.length_append]; omega), List.getElem?_append_left (by have := (List.getElem?_eq_some_iff.1 hv).1; rw [List.length_append]; omega)]
    rw [show m + t - (p ++ x).length = t by rw [List.length_append]; omega]
    exact hv
  have HGX := Lib.hid hgx
  have HGY := Lib.hid hgy
  have HP := Lib.hid ha
  have HM := Lib.hid hm
  have HB := Lib.hid hb
  have HN := Lib.hid hN
  have HC := Lib.hid hcmp
  have HOX := Lib.hid hokx
  have HOY := Lib.hid hoky
  have HSX := Lib.hid hsx
  have HSY := Lib.hid hsy
  have HF := Lib.hid hf
  have IH : Hid (SymAt w0 ps ok key B g c N f) := Lib.hid ih
  obtain ⟨L, hL⟩ : ∃ L, Hid (p ++ x ++ y ++ q = L) := ⟨_, Lib.hid rfl⟩
  rw [hL.out] at H HGX HGY
  have ham : a + 2 ≤ m := by omega
  have hmb : m + 2 ≤ b := by omega
  have hma : (((m : Int) - (a : Int)) == 1) = false := by simp; omega
  have hbm : (((b : Int) - (m : Int)) == 1) = false := by simp; omega
  obtain ⟨mid, hmid⟩ : ∃ h, Hid ((a + b) / 2 = h) := ⟨_, rfl⟩
  have hsI : (((a : Int) + (b : Int)) / 2) = (mid : Int) := by have := hmid.out; omega
  have hsU : IntKind.u64.wrap ((a : Int) + (b : Int)) = (a : Int) + (b : Int) := by simp [IntKind.wrap, IntKind.bits, IntKind.signed]; omega
  obtain ⟨n, hn⟩ : ∃ n, Hid (mid + m = n) := ⟨_, rfl⟩
  have hnI : ((mid : Int) + (m : Int)) = (n : Int) := by have := hn.out; omega
  have hmid2 : mid + mid ≤ a + b ∧ a + b ≤ mid + mid + 1 := by rw [← hmid.out]; omega
  have hmN : mid ≤ N ∧ n ≤ 2 * N := by have := hn.out; omega
  obtain ⟨hmN1, hmN2⟩ := hmN
  have hn1 : 1 ≤ n := by have := hn.out; omega
  have HMID2 := Lib.hid hmid2
  clear hmid2 ih hf hokx hoky hsx hsy ha hm hb hx0 hy0 hN hgx hgy hcmp hx1 hy1
  go_enter Try.func54, Try.ntmps54
  go_upto_if 140 with (fail)
  go_cut [20, 21] (fun s20 s21 wx => wx = w ∧ ∃ lo hi : Nat, s20 = .int .i64 lo ∧ s21 = .int .i64 hi ∧ Hid (a ≤ lo ∧ lo ≤ hi ∧ hi ≤ m ∧ (lo = a ∨ n = lo + b) ∧ (hi = m ∨ hi + m = n) ∧ (n ≤ lo + b ∧ m + hi ≤ n) ∧ ∀ c, lo ≤ c → c < hi → m + c + 1 ≤ n ∧ n ≤ b + c))
  case first =>
    have hm2 := HMID2.out
    have hn2 := hn.out
    by_cases hmm : mid < m
    · have hmmI : (mid : Int) < (m : Int) := by omega
      obtain ⟨lo, hlo⟩ : ∃ lo, n = lo + b := ⟨n - b, by omega⟩
      have hloI : ((n : Int) - (b : Int)) = (lo : Int) := by omega
      have hfacts : a ≤ lo ∧ lo ≤ mid ∧ mid ≤ m ∧ (lo = a ∨ n = lo + b) ∧ (mid = m ∨ mid + m = n) ∧ (n ≤ lo + b ∧ m + mid ≤ n) ∧ ∀ c, lo ≤ c → c < mid → m + c + 1 ≤ n ∧ n ≤ b + c := ⟨by omega, by omega, by omega, .inr hlo, .inr hn2, ⟨by omega, by omega⟩, fun c h1 h2 => ⟨by omega, by omega⟩⟩
      have HFA := Lib.hid hfacts
      clear hfacts hlo hn2 hm2
      go_wp2_with fail
      go_meet
      exact ⟨rfl, lo, mid, by go_num, rfl, HFA⟩
    · have hmmI : ¬ ((mid : Int) < (m : Int)) := by omega
      have hfacts : a ≤ a ∧ a ≤ m ∧ m ≤ m ∧ (a = a ∨ n = a + b) ∧ (m = m ∨ m + m = n) ∧ (n ≤ a + b ∧ m + m ≤ n) ∧ ∀ c, a ≤ c → c < m → m + c + 1 ≤ n ∧ n ≤ b + c := ⟨by omega, by omega, by omega, .inl rfl, .inl rfl, ⟨by omega, by omega⟩, fun c h1 h2 => ⟨by omega, by omega⟩⟩
      clear hfacts hn2 hm2
      go_wp2_with fail
      go_meet
      refine ⟨rfl, a, m, rfl, rfl, Lib.hid ?_⟩
      have hm2 := HMID2.out
      have hn2 := hn.out
      exact ⟨by omega, by omega, by omega, .inl rfl, .inl rfl, ⟨by omega, by omega⟩, fun c h1 h2 => ⟨by omega, by omega⟩⟩
  case rest =>
    obtain ⟨rfl, lo, hi, rfl, rfl, HFA⟩ := hcut
    obtain ⟨pp, hpp⟩ : ∃ pp, n = pp + 1 := ⟨n - 1, by omega⟩
    have hppI : ((n : Int) - 1) = (pp : Int) := by omega
    have HPP := Lib.hid hpp
    have hppN : pp ≤ 2 * N := by omega
    clear hpp
    go_upto_block 8 with (fail)
    go_cut [20] (fun s20 wx => ∃ s : Nat, s20 = .int .i64 s ∧ lo ≤ s ∧ s ≤ hi ∧ Hid (s = lo ∨ ∃ u v, x[s - 1 - a]? = some u ∧ y[n - s - m]? = some v ∧ key u ≤ key v) ∧ Hid (s = hi ∨ ∃ u v, x[s - a]? = some u ∧ y[n - 1 - s - m]? = some v ∧ key v < key u) ∧ Own w0 wx (slc 65 2 (.slice (some ⟨g, 0, none⟩) N c) N (rows ce L) :: ps))
    case first =>
      go_wp2_with fail
      go_loopw [20, 21] (fun s20 s21 wx => ∃ (s r : Nat), s20 = .int .i64 s ∧ s21 = .int .i64 r ∧ lo ≤ s ∧ s ≤ r ∧ r ≤ hi ∧ Hid (s = lo ∨ ∃ u v, x[s - 1 - a]? = some u ∧ y[n - s - m]? = some v ∧ key u ≤ key v) ∧ Hid (r = hi ∨ ∃ u v, x[r - a]? = some u ∧ y[n - 1 - r - m]? = some v ∧ key v < key u) ∧ Own w0 wx (slc 65 2 (.slice (some ⟨g, 0, none⟩) N c) N (rows ce L) :: ps)) (fun s20 s21 _ => (intOf s21).toNat - (intOf s20).toNat)
      case atStart => exact ⟨lo, hi, rfl, by go_num, Nat.le_refl _, HFA.out.2.1, Nat.le_refl _, Lib.hid (.inl rfl), Lib.hid (.inl rfl), H⟩
      case round =>
        clear H hppI
        obtain ⟨s, r, rfl, rfl, hls, hsr, hrh, hlo, hhi, H⟩ := hrel
        by_cases hlt : s < r
        · obtain ⟨h, hh⟩ : ∃ h, Hid ((s + r) / 2 = h) := ⟨_, rfl⟩
          have hsh : s ≤ h := by rw [← hh.out]; omega
          have hhr : h < r := by rw [← hh.out]; omega
          have hsI2 : (((s : Int) + (r : Int)) / 2) = (h : Int) := by have := hh.out; omega
          have hrm : r ≤ N := by have := HFA.out.2.2.1; omega
          have hsU2 : IntKind.u64.wrap ((s : Int) + (r : Int)) = (s : Int) + (r : Int) := by simp [IntKind.wrap, IntKind.bits, IntKind.signed]; omega
          obtain ⟨hf1, hf2⟩ := HFA.out.2.2.2.2.2.2 h (by omega) (by omega)
          obtain ⟨t, ht⟩ : ∃ t, h = a + t := ⟨h - a, by have := HFA.out.1; omega⟩
          obtain ⟨u, hu⟩ := get_of_lt (l := x) (k := t) (by have := HM.out; have := HFA.out.2.2.1; omega)
          obtain ⟨pc, hpc⟩ : ∃ pc, n = pc + 1 + h := ⟨n - 1 - h, by omega⟩
          obtain ⟨t2, ht2⟩ : ∃ t2, pc = m + t2 := ⟨pc - m, by omega⟩
          obtain ⟨v, hv⟩ := get_of_lt (l := y) (k := t2) (by have := HB.out; omega)
          have hg1 := HGX.out t u hu
          have hg2 := HGY.out t2 v hv
          rw [← ht] at hg1
          rw [← ht2] at hg2
          have HG1 := Lib.hid hg1
          have HG2 := Lib.hid hg2
          have hoku : ok u := HOX.out u (List.mem_of_getElem? hu)
          have hokv : ok v := HOY.out v (List.mem_of_getElem? hv)
          have hpcI : ((pp : Int) - (h : Int)) = (pc : Int) := by have := HPP.out; omega
          have hpcN : (pc : Int) < (N : Int) := by omega
          have hhN : (h : Int) < (N : Int) := by omega
          have hcall := fun (wz : World) (h : Own w0 wz (slc 65 2 (.slice (some ⟨g, 0, none⟩) N c) N (rows ce L) :: ps)) => HC.out wz _ h v u hokv hoku
          have hcl := cmpI_lt (key v) (key u)
          obtain ⟨cv, hcv⟩ : ∃ cv, Hid (cmpI (key v) (key u) = cv) := ⟨_, rfl⟩
          simp only [hcv.out] at hcall hcl
          have HCALL := Lib.hid hcall
          have hlo2 : ¬ key v < key u → Hid (h + 1 = lo ∨ ∃ u v, x[h + 1 - 1 - a]? = some u ∧ y[n - (h + 1) - m]? = some v ∧ key u ≤ key v) := fun hk => Lib.hid (.inr ⟨u, v, by rw [show h + 1 - 1 - a = t by omega]; exact hu, by rw [show n - (h + 1) - m = t2 by omega]; exact hv, by omega⟩)
          have hhi2 : key v < key u → Hid (h = hi ∨ ∃ u v, x[h - a]? = some u ∧ y[n - 1 - h - m]? = some v ∧ key v < key u) := fun hk => Lib.hid (.inr ⟨u, v, by rw [show h - a = t by omega]; exact hu, by rw [show n - 1 - h - m = t2 by omega]; exact hv, hk⟩)
          have HLO2 := Lib.hid hlo2
          have HHI2 := Lib.hid hhi2
          clear hlo2 hhi2 hg1 hg2 hu hv ht ht2 hcall hf1 hf2 hpc
          go_upto_region 35 with (fail)
          refine wp_region_calm (fun w1 => Own w0 w1 (slc 65 2 (.slice (some ⟨g, 0, none⟩) N c) N (rows ce L) :: ps)) 12 (by kernel_rfl) (by kernel_rfl) H.drew ?_
          simp only [List.take_succ_cons, List.take_zero, List.drop_succ_cons, List.drop_zero]
          have hpw : IntKind.i64.wrap (pc : Int) = (pc : Int) := IntWalk.i64_in _ ⟨by omega, by omega⟩
          repeat
            first
            | (refine calm_value (v := ?_) (by decide) rfl (fun σ w1 hS => ?_) ?_
               rotate_left
               · obtain ⟨c1, c1'⟩ := el hS.rd HG1.out; obtain ⟨c2, c2'⟩ := el hS.rd HG2.out
                 first | (go_simp; rfl) | rfl
               simp only [Act.put, List.setIfInBounds_toArray, List.set_cons_zero, List.set_cons_succ])
            | (refine calm_skip (by decide) rfl ?_
               simp only [Act.put, List.setIfInBounds_toArray, List.set_cons_zero, List.set_cons_succ])
          refine calm_call (v := .int .i64 cv) (by decide) rfl (fun w1 => (by go_simp; first | exact ⟨rfl, rfl⟩ | rfl)) (fun σ w1 hS => ?_) ?_
          · refine (HCALL.out w1 hS).mono ?_
            rintro e w2 ⟨_, rfl, rfl, h2⟩
            exact ⟨rfl, hS.join h2⟩
          simp only [Act.put, List.setIfInBounds_toArray, List.set_cons_zero, List.set_cons_succ]
          refine calm_nil ?_
          intro wd HD
          clear H
          by_cases hk : key v < key u
          · have hk2 : decide (cv < 0) = true := by rw [hcl]; simp [hk]
            have hn' := HHI2.out hk
            clear hk hcl HLO2
            go_wp2
            go_roundw
            case rel => exact ⟨s, h, rfl, by go_num, by omega, by omega, by omega, hlo, hn', HD⟩
            case measure => simp [intOf]; omega
          · have hk2 : decide (cv < 0) = false := by rw [hcl]; simp [hk]
            have hn' := HLO2.out hk
            clear hk hcl HHI2
            go_wp2
            go_roundw
            case rel => exact ⟨h + 1, r, by go_num, rfl, by omega, by omega, by omega, hn', hhi, HD⟩
            case measure => simp [intOf]; omega
        · have hsr2 : s = r := by omega
          subst hsr2
          clear hlt
          go_wp2
          go_meet
          exact ⟨s, rfl, hls, hrh, hlo, hhi, H⟩
    case rest =>
      clear H hppI
      obtain ⟨s, rfl, hls, hrh, hlo, hhi, H⟩ := hcut
      obtain ⟨q1, q2, q3, q4, q5, q7, q6⟩ := HFA.out
      have hm2 := HMID2.out
      have hn2 := hn.out
      have hMl := HM.out
      have hBl := HB.out
      obtain ⟨en, hen⟩ : ∃ en, n = en + s := ⟨n - s, by omega⟩
      have henb : en ≤ b := by omega
      have hmen : m ≤ en := by omega
      obtain ⟨X1, X2, hxs, hX1⟩ := split_at x (s - a) (by omega)
      obtain ⟨Y1, Y2, hys, hY1⟩ := split_at y (en - m) (by omega)
      have hX2l : s + X2.length = m := by rw [hxs, List.length_append] at hMl; omega
      have hY2l : en + Y2.length = b := by rw [hys, List.length_append] at hBl; omega
      have hA : ∀ d ∈ X2, ∀ e ∈ Y1, key e < key d := by
        intro d hd e he
        rcases hhi.out with h | ⟨u, v, hu, hv, huv⟩
        · rcases q5 with h2 | h2
          · have : X2 = [] := List.eq_nil_of_length_eq_zero (by omega)
            rw [this] at hd; simp at hd
          · have : Y1 = [] := List.eq_nil_of_length_eq_zero (by omega)
            rw [this] at he; simp at he
        · obtain ⟨i', hi', rfl⟩ := List.getElem_of_mem hd
          obtain ⟨j', hj', rfl⟩ := List.getElem_of_mem he
          have h1 : x[X1.length + i']? = some X2[i'] := by rw [hxs, List.getElem?_append_right (by omega), Nat.add_sub_cancel_left, List.getElem?_eq_getElem hi']
          have h2 : y[j']? = some Y1[j'] := by rw [hys, List.getElem?_append_left hj', List.getElem?_eq_getElem hj']
          have h3 := srt_le HSX.out hu h1 (by omega)
          have h4 := srt_le HSY.out h2 hv (by omega)
          omega
      have hB' : ∀ d ∈ X1, ∀ e ∈ Y2, key d ≤ key e := by
        intro d hd e he
        rcases hlo.out with h | ⟨u, v, hu, hv, huv⟩
        · rcases q4 with h2 | h2
          · have : X1 = [] := List.eq_nil_of_length_eq_zero (by omega)
            rw [this] at hd; simp at hd
          · have : Y2 = [] := List.eq_nil_of_length_eq_zero (by omega)
            rw [this] at he; simp at he
        · obtain ⟨i', hi', rfl⟩ := List.getElem_of_mem hd
          obtain ⟨j', hj', rfl⟩ := List.getElem_of_mem he
          have h1 : x[i']? = some X1[i'] := by rw [hxs, List.getElem?_append_left hi', List.getElem?_eq_getElem hi']
          have h2 : y[Y1.length + j']? = some Y2[j'] := by rw [hys, List.getElem?_append_right (by omega), Nat.add_sub_cancel_left, List.getElem?_eq_getElem hj']
          have h3 := srt_le HSX.out h1 hu (by omega)
          have h4 := srt_le HSY.out hv h2 (by omega)
          omega
      have hfinal : ∀ z1 z2, Mrg key X1 Y1 z1 → Mrg key X2 Y2 z2 → Mrg key x y (z1 ++ z2) := fun z1 z2 h1 h2 => by
        rw [hxs, hys]
        exact Mrg.two h1 h2 (by rw [← hxs]; exact HSX.out) (by rw [← hys]; exact HSY.out) hA hB'
      have HFINAL := Lib.hid hfinal
      have HOX1 : Hid (∀ v ∈ X1, ok v) := Lib.hid fun v hv => HOX.out v (by rw [hxs]; simp [hv])
      have HOX2 : Hid (∀ v ∈ X2, ok v) := Lib.hid fun v hv => HOX.out v (by rw [hxs]; simp [hv])
      have HOY1 : Hid (∀ v ∈ Y1, ok v) := Lib.hid fun v hv => HOY.out v (by rw [hys]; simp [hv])
      have HOY2 : Hid (∀ v ∈ Y2, ok v) := Lib.hid fun v hv => HOY.out v (by rw [hys]; simp [hv])
      have HSX1 : Hid (Srt key X1) := Lib.hid (by have := HSX.out; rw [hxs] at this; exact this.left)
      have HSX2 : Hid (Srt key X2) := Lib.hid (by have := HSX.out; rw [hxs] at this; exact this.right)
      have HSY1 : Hid (Srt key Y1) := Lib.hid (by have := HSY.out; rw [hys] at this; exact this.left)
      have HSY2 : Hid (Srt key Y2) := Lib.hid (by have := HSY.out; rw [hys] at this; exact this.right)
      have HL2 : Hid (L = p ++ X1 ++ X2 ++ Y1 ++ Y2 ++ q) := Lib.hid (by rw [← hL.out, hxs, hys]; simp)
      have HNL : Hid (N = (p ++ X1 ++ X2 ++ Y1 ++ Y2 ++ q).length) := Lib.hid (by rw [← HL2.out, ← hL.out]; exact HN.out)
      have hlens : Hid (a = p.length ∧ s = a + X1.length ∧ m = s + X2.length ∧ en = m + Y1.length ∧ b = en + Y2.length ∧ mid = s + Y1.length ∧ en = mid + X2.length ∧ X1.length + X2.length + (Y1.length + Y2.length) ≤ f + 1 ∧ 0 < X1.length + X2.length ∧ 0 < Y1.length + Y2.length) := Lib.hid (by
        have h1 := HP.out
        have h2 := HF.out
        rw [hxs, hys, List.length_append, List.length_append] at h2
        rw [hxs, List.length_append] at hMl
        rw [hys, List.length_append] at hBl
        refine ⟨h1, by omega, by omega, by omega, by omega, by omega, by omega, by omega, by omega, by omega⟩)
      have henI : ((n : Int) - (s : Int)) = (en : Int) := by omega
      have hensN : en ≤ N ∧ s ≤ N := ⟨by omega, by omega⟩
      obtain ⟨hensN1, hensN2⟩ := hensN
      have hsn : s ≤ n := by omega
      rw [HL2.out] at H
      clear q1 q2 q3 q4 q5 q6 q7 hm2 hn2 hMl hBl hen henb hmen hxs hys hX1 hY1 hX2l hY2l hA hB' hfinal hlo hhi hL hsI hnI
      apply_assumption
      exact tail_any (p := p) (q := q) (x := x) (y := y) (X1 := X1) (X2 := X2) (Y1 := Y1) (Y2 := Y2) (a := a) (m := m) (b := b) (s := s) (en := en) (mid := mid) (n := n) wc hNb IH HFINAL HOX1 HOX2 HOY1 HOY2 HSX1 HSX2 HSY1 HSY2 HNL HMID2 ham hmb hbN hlens hensN1 hensN2 hmN1 henI hsn hmN2 _ _ _ _ _ _ _ _ _ _ _ _ _ _ _ _ _ _ _ _ _ _ _ _ _ _ _ _ _ _ _ _ _ _ _ _ _ _ _ _ _ _ _ _ _ _ _ _ _ _ _ _ _ _ _ _ _ _ _ _ _ _ _ _ _ _ _ _ _ _ _ _ _ _ _ _ _ _ _ _ _ _ _ _ _ _ _ _ _ _ _ _ _ _ _ _ _ _ _ _ _ _ _ _ _ _ _ _ _ _ _ _ _ _ _ _ _ _ _ _ _ _ _ _ _ _ _ _ _ _ _ _ _ _ _ _ _ _ _ _ _ _ _ _ _ _ _ _ _ _ _ _ _ _ _ _ _ _ _ _ _ _ _ _ _ _ _ _ _ _ _ _ _ _ _ _ _ _ _ _ _ _ _ _ _ _ _ _ _ _ _ _ _ _ _ _ _ _ _ _ _ _ _ _ _ _ _ _ _ _ _ _ H
end
end SC
end Go.Proofs.Ytfeamlbkogigkaa
