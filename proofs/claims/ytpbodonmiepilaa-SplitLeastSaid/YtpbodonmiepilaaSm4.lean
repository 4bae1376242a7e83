/-
  Texts of this claim, one behind the other: The stable sort of slices of ints; Stable sorts, plainly; The stable sort of slices of ints; The stable sort of slices of coins; The stable sort of slices of coins; The stable sort of slices of coins; The stable sort of slices of coins; The stable sort of slices of coins; The stable sort of slices of coins; The stable sort of slices of coins; huff; huff; huff; huff.
-/
import Derived.Test.YtpbodonmiepilaaSm3
import Derived.Lib.BufferMore
set_option linter.unusedVariables false
/- The stable sort of slices of ints: the walk of symMerge. (Written by tools/srt.py.) -/
namespace Go.Proofs.Ytpbodonmiepilaa
open Go.RowKit
namespace SI
theorem srt_le {α : Type} {key : α → Int} {l : List α} (h : Srt key l) {i j : Nat} {u v : α} (hu : l[i]? = some u) (hv : l[j]? = some v) (hij : i ≤ j) : key u ≤ key v := by
  obtain ⟨h1, rfl⟩ := List.getElem?_eq_some_iff.1 hu
  obtain ⟨h2, rfl⟩ := List.getElem?_eq_some_iff.1 hv
  rcases Nat.lt_or_eq_of_le hij with h3 | h3
  · exact List.pairwise_iff_getElem.1 h i j h1 h2 h3
  · subst h3; exact Int.le_refl _
section
variable {w0 : World} {ps : List Piece} {ok : Int → Prop} {key : Int → Int} {B : Nat}
set_option maxRecDepth 100000 in
set_option maxHeartbeats 12800000 in
theorem sym_any {g c N : Nat} (hcmp : Cmps w0 ps B ok key) (hNb : N ≤ 1000000) : ∀ (f : Nat), SymAt w0 ps ok key B g c N f := by
  intro f
  induction f with
  | zero => intro w p x y q a m b hf _ _ _ _ _ _ _ h1 _ _ _; omega
  | succ f ih =>
  intro w p x y q a m b hf hokx hoky hsx hsy ha hm hb hx0 hy0 hN H
  by_cases hx1 : x.length = 1
  · obtain ⟨u, rfl⟩ := List.length_eq_one_iff.1 hx1
    exact symL_any hcmp (hokx u (by simp)) hoky hsy ha (by simpa using hm) hb hN hNb H
  by_cases hy1 : y.length = 1
  · obtain ⟨u, rfl⟩ := List.length_eq_one_iff.1 hy1
    exact symR_any hcmp (hoky u (by simp)) hokx hsx (by omega) ha hm (by simpa using hb) hN hNb H
  have hbN : b ≤ N := by rw [hN]; simp only [List.length_append]; omega
  have hNc : N ≤ c := by obtain ⟨_, _, e, h1, _⟩ := H.rd.shape; cases e; exact h1
  have hc2 : c ≤ 9223372036854775807 := by obtain ⟨_, _, e, _, h1⟩ := H.rd.shape; cases e; exact h1
  have hgx : ∀ (t : Nat) v, x[t]? = some v → (p ++ x ++ y ++ q)[a + t]? = some v := by
    intro t v hv
    have : p ++ x ++ y ++ q = p ++ (x ++ (y ++ q)) := by simp
    rw [this, List.getElem?_append_right (by omega), List.getElem?_append_left (by have := (List.getElem?_eq_some_iff.1 hv).1; omega)]
    rw [show a + t - p.length = t by omega]
    exact hv
  have hgy : ∀ (t : Nat) v, y[t]? = some v → (p ++ x ++ y ++ q)[m + t]? = some v := by
    intro t v hv
    have : p ++ x ++ y ++ q = (p ++ x) ++ (y ++ q) := by simp
    rw [this, List.getElem?_append_right (by rw [List.length_append]; omega), List.getElem?_append_left (by have := (List.getElem?_eq_some_iff.1 hv).1; rw [List.length_append]; omega)]
    rw [show m + t - (p ++ x).length = t by rw [List.length_append]; omega]
    exact hv
  have HGX := Lib.hid hgx
  have HGY := Lib.hid hgy
  have HP := Lib.hid ha
  have HM := Lib.hid hm
  have HB := Lib.hid hb
  have HN := Lib.hid hN
  have HC := Lib.hid hcmp
  have HOX := Lib.hid hokx
  have HOY := Lib.hid hoky
  have HSX := Lib.hid hsx
  have HSY := Lib.hid hsy
  have HF := Lib.hid hf
  have IH : Hid (SymAt w0 ps ok key B g c N f) := Lib.hid ih
  obtain ⟨L, hL⟩ : ∃ L, Hid (p ++ x ++ y ++ q = L) := ⟨_, Lib.hid rfl⟩
  rw [hL.out] at H HGX HGY
  have ham : a + 2 ≤ m := by omega
  have hmb : m + 2 ≤ b := by omega
  have hma : (((m : Int) - (a : Int)) == 1) = false := by simp; omega
  have hbm : (((b : Int) - (m : Int)) == 1) = false := by simp; omega
  obtain ⟨mid, hmid⟩ : ∃ h, Hid ((a + b) / 2 = h) := ⟨_, rfl⟩
  have hsI : (((a : Int) + (b : Int)) / 2) = (mid : Int) := by have := hmid.out; omega
  have hsU : IntKind.u64.wrap ((a : Int) + (b : Int)) = (a : Int) + (b : Int) := by simp [IntKind.wrap, IntKind.bits, IntKind.signed]; omega
  obtain ⟨n, hn⟩ : ∃ n, Hid (mid + m = n) := ⟨_, rfl⟩
  have hnI : ((mid : Int) + (m : Int)) = (n : Int) := by have := hn.out; omega
  have hmid2 : mid + mid ≤ a + b ∧ a + b ≤ mid + mid + 1 := by rw [← hmid.out]; omega
  have hmN : mid ≤ N ∧ n ≤ 2 * N := by have := hn.out; omega
  obtain ⟨hmN1, hmN2⟩ := hmN
  have hn1 : 1 ≤ n := by have := hn.out; omega
  have HMID2 := Lib.hid hmid2
  clear hmid2 ih hf hokx hoky hsx hsy ha hm hb hx0 hy0 hN hgx hgy hcmp hx1 hy1
  go_enter Try.func103, Try.ntmps103
  go_upto_if 140 with (fail)
  go_cut [20, 21] (fun s20 s21 wx => wx = w ∧ ∃ lo hi : Nat, s20 = .int .i64 lo ∧ s21 = .int .i64 hi ∧ Hid (a ≤ lo ∧ lo ≤ hi ∧ hi ≤ m ∧ (lo = a ∨ n = lo + b) ∧ (hi = m ∨ hi + m = n) ∧ (n ≤ lo + b ∧ m + hi ≤ n) ∧ ∀ c, lo ≤ c → c < hi → m + c + 1 ≤ n ∧ n ≤ b + c))
  case first =>
    have hm2 := HMID2.out
    have hn2 := hn.out
    by_cases hmm : mid < m
    · have hmmI : (mid : Int) < (m : Int) := by omega
      obtain ⟨lo, hlo⟩ : ∃ lo, n = lo + b := ⟨n - b, by omega⟩
      have hloI : ((n : Int) - (b : Int)) = (lo : Int) := by omega
      have hfacts : a ≤ lo ∧ lo ≤ mid ∧ mid ≤ m ∧ (lo = a ∨ n = lo + b) ∧ (mid = m ∨ mid + m = n) ∧ (n ≤ lo + b ∧ m + mid ≤ n) ∧ ∀ c, lo ≤ c → c < mid → m + c + 1 ≤ n ∧ n ≤ b + c := ⟨by omega, by omega, by omega, .inr hlo, .inr hn2, ⟨by omega, by omega⟩, fun c h1 h2 => ⟨by omega, by omega⟩⟩
      have HFA := Lib.hid hfacts
      clear hfacts hlo hn2 hm2
      go_wp2_with fail
      go_meet
      exact ⟨rfl, lo, mid, by go_num, rfl, HFA⟩
    · have hmmI : ¬ ((mid : Int) < (m : Int)) := by omega
      have hfacts : a ≤ a ∧ a ≤ m ∧ m ≤ m ∧ (a = a ∨ n = a + b) ∧ (m = m ∨ m + m = n) ∧ (n ≤ a + b ∧ m + m ≤ n) ∧ ∀ c, a ≤ c → c < m → m + c + 1 ≤ n ∧ n ≤ b + c := ⟨by omega, by omega, by omega, .inl rfl, .inl rfl, ⟨by omega, by omega⟩, fun c h1 h2 => ⟨by omega, by omega⟩⟩
      clear hfacts hn2 hm2
      go_wp2_with fail
      go_meet
      refine ⟨rfl, a, m, rfl, rfl, Lib.hid ?_⟩
      have hm2 := HMID2.out
      have hn2 := hn.out
      exact ⟨by omega, by omega, by omega, .inl rfl, .inl rfl, ⟨by omega, by omega⟩, fun c h1 h2 => ⟨by omega, by omega⟩⟩
  case rest =>
    obtain ⟨rfl, lo, hi, rfl, rfl, HFA⟩ := hcut
    obtain ⟨pp, hpp⟩ : ∃ pp, n = pp + 1 := ⟨n - 1, by omega⟩
    have hppI : ((n : Int) - 1) = (pp : Int) := by omega
    have HPP := Lib.hid hpp
    have hppN : pp ≤ 2 * N := by omega
    clear hpp
    go_upto_block 8 with (fail)
    go_cut [20] (fun s20 wx => ∃ s : Nat, s20 = .int .i64 s ∧ lo ≤ s ∧ s ≤ hi ∧ Hid (s = lo ∨ ∃ u v, x[s - 1 - a]? = some u ∧ y[n - s - m]? = some v ∧ key u ≤ key v) ∧ Hid (s = hi ∨ ∃ u v, x[s - a]? = some u ∧ y[n - 1 - s - m]? = some v ∧ key v < key u) ∧ Own w0 wx (slc 3 1 (.slice (some ⟨g, 0, none⟩) N c) N (rows ie L) :: ps))
    case first =>
      go_wp2_with fail
      go_loopw [20, 21] (fun s20 s21 wx => ∃ (s r : Nat), s20 = .int .i64 s ∧ s21 = .int .i64 r ∧ lo ≤ s ∧ s ≤ r ∧ r ≤ hi ∧ Hid (s = lo ∨ ∃ u v, x[s - 1 - a]? = some u ∧ y[n - s - m]? = some v ∧ key u ≤ key v) ∧ Hid (r = hi ∨ ∃ u v, x[r - a]? = some u ∧ y[n - 1 - r - m]? = some v ∧ key v < key u) ∧ Own w0 wx (slc 3 1 (.slice (some ⟨g, 0, none⟩) N c) N (rows ie L) :: ps)) (fun s20 s21 _ => (intOf s21).toNat - (intOf s20).toNat)
      case atStart => exact ⟨lo, hi, rfl, by go_num, Nat.le_refl _, HFA.out.2.1, Nat.le_refl _, Lib.hid (.inl rfl), Lib.hid (.inl rfl), H⟩
      case round =>
        clear H hppI
        obtain ⟨s, r, rfl, rfl, hls, hsr, hrh, hlo, hhi, H⟩ := hrel
        by_cases hlt : s < r
        · obtain ⟨h, hh⟩ : ∃ h, Hid ((s + r) / 2 = h) := ⟨_, rfl⟩
          have hsh : s ≤ h := by rw [← hh.out]; omega
          have hhr : h < r := by rw [← hh.out]; omega
          have hsI2 : (((s : Int) + (r : Int)) / 2) = (h : Int) := by have := hh.out; omega
          have hrm : r ≤ N := by have := HFA.out.2.2.1; omega
          have hsU2 : IntKind.u64.wrap ((s : Int) + (r : Int)) = (s : Int) + (r : Int) := by simp [IntKind.wrap, IntKind.bits, IntKind.signed]; omega
          obtain ⟨hf1, hf2⟩ := HFA.out.2.2.2.2.2.2 h (by omega) (by omega)
          obtain ⟨t, ht⟩ : ∃ t, h = a + t := ⟨h - a, by have := HFA.out.1; omega⟩
          obtain ⟨u, hu⟩ := get_of_lt (l := x) (k := t) (by have := HM.out; have := HFA.out.2.2.1; omega)
          obtain ⟨pc, hpc⟩ : ∃ pc, n = pc + 1 + h := ⟨n - 1 - h, by omega⟩
          obtain ⟨t2, ht2⟩ : ∃ t2, pc = m + t2 := ⟨pc - m, by omega⟩
          obtain ⟨v, hv⟩ := get_of_lt (l := y) (k := t2) (by have := HB.out; omega)
          have hg1 := HGX.out t u hu
          have hg2 := HGY.out t2 v hv
          rw [← ht] at hg1
          rw [← ht2] at hg2
          have HG1 := Lib.hid hg1
          have HG2 := Lib.hid hg2
          have hoku : ok u := HOX.out u (List.mem_of_getElem? hu)
          have hokv : ok v := HOY.out v (List.mem_of_getElem? hv)
          have hpcI : ((pp : Int) - (h : Int)) = (pc : Int) := by have := HPP.out; omega
          have hpcN : (pc : Int) < (N : Int) := by omega
          have hhN : (h : Int) < (N : Int) := by omega
          have hcall := fun (wz : World) (h : Own w0 wz (slc 3 1 (.slice (some ⟨g, 0, none⟩) N c) N (rows ie L) :: ps)) => HC.out wz _ h v u hokv hoku
          have hcl := cmpI_lt (key v) (key u)
          obtain ⟨cv, hcv⟩ : ∃ cv, Hid (cmpI (key v) (key u) = cv) := ⟨_, rfl⟩
          simp only [hcv.out] at hcall hcl
          have HCALL := Lib.hid hcall
          have hlo2 : ¬ key v < key u → Hid (h + 1 = lo ∨ ∃ u v, x[h + 1 - 1 - a]? = some u ∧ y[n - (h + 1) - m]? = some v ∧ key u ≤ key v) := fun hk => Lib.hid (.inr ⟨u, v, by rw [show h + 1 - 1 - a = t by omega]; exact hu, by rw [show n - (h + 1) - m = t2 by omega]; exact hv, by omega⟩)
          have hhi2 : key v < key u → Hid (h = hi ∨ ∃ u v, x[h - a]? = some u ∧ y[n - 1 - h - m]? = some v ∧ key v < key u) := fun hk => Lib.hid (.inr ⟨u, v, by rw [show h - a = t by omega]; exact hu, by rw [show n - 1 - h - m = t2 by omega]; exact hv, hk⟩)
          have HLO2 := Lib.hid hlo2
          have HHI2 := Lib.hid hhi2
          clear hlo2 hhi2 hg1 hg2 hu hv ht ht2 hcall hf1 hf2 hpc
          go_upto_region 35 with (fail)
          refine wp_region_calm (fun w1 => Own w0 w1 (slc 3 1 (.slice (some ⟨g, 0, none⟩) N c) N (rows ie L) :: ps)) 12 (by kernel_rfl) (by kernel_rfl) H.drew ?_
          simp only [List.take_succ_cons, List.take_zero, List.drop_succ_cons, List.drop_zero]
          have hpw : IntKind.i64.wrap (pc : Int) = (pc : Int) := IntWalk.i64_in _ ⟨by omega, by omega⟩
          repeat
            first
            | (refine calm_value (v := ?_) (by decide) rfl (fun σ w1 hS => ?_) ?_
               rotate_left
               · obtain ⟨c1, c1'⟩ := el hS.rd HG1.out; obtain ⟨c2, c2'⟩ := el hS.rd HG2.out
                 first | (go_simp; rfl) | rfl
               simp only [Act.put, List.setIfInBounds_toArray, List.set_cons_zero, List.set_cons_succ])
            | (refine calm_skip (by decide) rfl ?_
               simp only [Act.put, List.setIfInBounds_toArray, List.set_cons_zero, List.set_cons_succ])
          refine calm_call (v := .int .i64 cv) (by decide) rfl (fun w1 => (by go_simp; first | exact ⟨rfl, rfl⟩ | rfl)) (fun σ w1 hS => ?_) ?_
          · refine (HCALL.out w1 hS).mono ?_
            rintro e w2 ⟨_, rfl, rfl, h2⟩
            exact ⟨rfl, hS.join h2⟩
          simp only [Act.put, List.setIfInBounds_toArray, List.set_cons_zero, List.set_cons_succ]
          refine calm_nil ?_
          intro wd HD
          clear H
          by_cases hk : key v < key u
          · have hk2 : decide (cv < 0) = true := by rw [hcl]; simp [hk]
            have hn' := HHI2.out hk
            clear hk hcl HLO2
            go_wp2
            go_roundw
            case rel => exact ⟨s, h, rfl, by go_num, by omega, by omega, by omega, hlo, hn', HD⟩
            case measure => simp [intOf]; omega
          · have hk2 : decide (cv < 0) = false := by rw [hcl]; simp [hk]
            have hn' := HLO2.out hk
            clear hk hcl HHI2
            go_wp2
            go_roundw
            case rel => exact ⟨h + 1, r, by go_num, rfl, by omega, by omega, by omega, hn', hhi, HD⟩
            case measure => simp [intOf]; omega
        · have hsr2 : s = r := by omega
          subst hsr2
          clear hlt
          go_wp2
          go_meet
          exact ⟨s, rfl, hls, hrh, hlo, hhi, H⟩
    case rest =>
      clear H hppI
      obtain ⟨s, rfl, hls, hrh, hlo, hhi, H⟩ := hcut
      obtain ⟨q1, q2, q3, q4, q5, q7, q6⟩ := HFA.out
      have hm2 := HMID2.out
      have hn2 := hn.out
      have hMl := HM.out
      have hBl := HB.out
      obtain ⟨en, hen⟩ : ∃ en, n = en + s := ⟨n - s, by omega⟩
      have henb : en ≤ b := by omega
      have hmen : m ≤ en := by omega
      obtain ⟨X1, X2, hxs, hX1⟩ := split_at x (s - a) (by omega)
      obtain ⟨Y1, Y2, hys, hY1⟩ := split_at y (en - m) (by omega)
      have hX2l : s + X2.length = m := by rw [hxs, List.length_append] at hMl; omega
      have hY2l : en + Y2.length = b := by rw [hys, List.length_append] at hBl; omega
      have hA : ∀ d ∈ X2, ∀ e ∈ Y1, key e < key d := by
        intro d hd e he
        rcases hhi.out with h | ⟨u, v, hu, hv, huv⟩
        · rcases q5 with h2 | h2
          · have : X2 = [] := List.eq_nil_of_length_eq_zero (by omega)
            rw [this] at hd; simp at hd
          · have : Y1 = [] := List.eq_nil_of_length_eq_zero (by omega)
            rw [this] at he; simp at he
        · obtain ⟨i', hi', rfl⟩ := List.getElem_of_mem hd
          obtain ⟨j', hj', rfl⟩ := List.getElem_of_mem he
          have h1 : x[X1.length + i']? = some X2[i'] := by rw [hxs, List.getElem?_append_right (by omega), Nat.add_sub_cancel_left, List.getElem?_eq_getElem hi']
          have h2 : y[j']? = some Y1[j'] := by rw [hys, List.getElem?_append_left hj', List.getElem?_eq_getElem hj']
          have h3 := srt_le HSX.out hu h1 (by omega)
          have h4 := srt_le HSY.out h2 hv (by omega)
          omega
      have hB' : ∀ d ∈ X1, ∀ e ∈ Y2, key d ≤ key e := by
        intro d hd e he
        rcases hlo.out with h | ⟨u, v, hu, hv, huv⟩
        · rcases q4 with h2 | h2
          · have : X1 = [] := List.eq_nil_of_length_eq_zero (by omega)
            rw [this] at hd; simp at hd
          · have : Y2 = [] := List.eq_nil_of_length_eq_zero (by omega)
            rw [this] at he; simp at he
        · obtain ⟨i', hi', rfl⟩ := List.getElem_of_mem hd
          obtain ⟨j', hj', rfl⟩ := List.getElem_of_mem he
          have h1 : x[i']? = some X1[i'] := by rw [hxs, List.getElem?_append_left hi', List.getElem?_eq_getElem hi']
          have h2 : y[Y1.length + j']? = some Y2[j'] := by rw [hys, List.getElem?_append_right (by omega), Nat.add_sub_cancel_left, List.getElem?_eq_getElem hj']
          have h3 := srt_le HSX.out h1 hu (by omega)
          have h4 := srt_le HSY.out hv h2 (by omega)
          omega
      have hfinal : ∀ z1 z2, Mrg key X1 Y1 z1 → Mrg key X2 Y2 z2 → Mrg key x y (z1 ++ z2) := fun z1 z2 h1 h2 => by
        rw [hxs, hys]
        exact Mrg.two h1 h2 (by rw [← hxs]; exact HSX.out) (by rw [← hys]; exact HSY.out) hA hB'
      have HFINAL := Lib.hid hfinal
      have HOX1 : Hid (∀ v ∈ X1, ok v) := Lib.hid fun v hv => HOX.out v (by rw [hxs]; simp [hv])
      have HOX2 : Hid (∀ v ∈ X2, ok v) := Lib.hid fun v hv => HOX.out v (by rw [hxs]; simp [hv])
      have HOY1 : Hid (∀ v ∈ Y1, ok v) := Lib.hid fun v hv => HOY.out v (by rw [hys]; simp [hv])
      have HOY2 : Hid (∀ v ∈ Y2, ok v) := Lib.hid fun v hv => HOY.out v (by rw [hys]; simp [hv])
      have HSX1 : Hid (Srt key X1) := Lib.hid (by have := HSX.out; rw [hxs] at this; exact this.left)
      have HSX2 : Hid (Srt key X2) := Lib.hid (by have := HSX.out; rw [hxs] at this; exact this.right)
      have HSY1 : Hid (Srt key Y1) := Lib.hid (by have := HSY.out; rw [hys] at this; exact this.left)
      have HSY2 : Hid (Srt key Y2) := Lib.hid (by have := HSY.out; rw [hys] at this; exact this.right)
      have HL2 : Hid (L = p ++ X1 ++ X2 ++ Y1 ++ Y2 ++ q) := Lib.hid (by rw [← hL.out, hxs, hys]; simp)
      have HNL : Hid (N = (p ++ X1 ++ X2 ++ Y1 ++ Y2 ++ q).length) := Lib.hid (by rw [← HL2.out, ← hL.out]; exact HN.out)
      have hlens : Hid (a = p.length ∧ s = a + X1.length ∧ m = s + X2.length ∧ en = m + Y1.length ∧ b = en + Y2.length ∧ mid = s + Y1.length ∧ en = mid + X2.length ∧ X1.length + X2.length + (Y1.length + Y2.length) ≤ f + 1 ∧ 0 < X1.length + X2.length ∧ 0 < Y1.length + Y2.length) := Lib.hid (by
        have h1 := HP.out
        have h2 := HF.out
        rw [hxs, hys, List.length_append, List.length_append] at h2
        rw [hxs, List.length_append] at hMl
        rw [hys, List.length_append] at hBl
        refine ⟨h1, by omega, by omega, by omega, by omega, by omega, by omega, by omega, by omega, by omega⟩)
      have henI : ((n : Int) - (s : Int)) = (en : Int) := by omega
      have hensN : en ≤ N ∧ s ≤ N := ⟨by omega, by omega⟩
      obtain ⟨hensN1, hensN2⟩ := hensN
      have hsn : s ≤ n := by omega
      rw [HL2.out] at H
      clear q1 q2 q3 q4 q5 q6 q7 hm2 hn2 hMl hBl hen henb hmen hxs hys hX1 hY1 hX2l hY2l hA hB' hfinal hlo hhi hL hsI hnI
      apply_assumption
      exact tail_any (p := p) (q := q) (x := x) (y := y) (X1 := X1) (X2 := X2) (Y1 := Y1) (Y2 := Y2) (a := a) (m := m) (b := b) (s := s) (en := en) (mid := mid) (n := n) wc hNb IH HFINAL HOX1 HOX2 HOY1 HOY2 HSX1 HSX2 HSY1 HSY2 HNL HMID2 ham hmb hbN hlens hensN1 hensN2 hmN1 henI hsn hmN2 _ _ _ _ _ _ _ _ _ _ _ _ _ _ _ _ _ _ _ _ _ _ _ _ _ _ _ _ _ _ _ _ _ _ _ _ _ _ _ _ _ _ _ _ _ _ _ _ _ _ _ _ _ _ _ _ _ _ _ _ _ _ _ _ _ _ _ _ _ _ _ _ _ _ _ _ _ _ _ _ _ _ _ _ _ _ _ _ _ _ _ _ _ _ _ _ _ _ _ _ _ _ _ _ _ _ _ _ _ _ _ _ _ _ _ _ _ _ _ _ _ _ _ _ _ _ _ _ _ _ _ _ _ _ _ _ _ _ _ _ _ _ _ _ _ _ _ _ _ _ _ _ _ _ _ _ _ _ _ _ _ _ _ _ _ _ _ _ _ _ _ _ _ _ _ _ _ _ _ _ _ _ _ _ _ _ _ _ _ _ _ _ _ _ _ _ _ _ _ _ _ _ _ _ _ _ _ _ _ _ _ _ H
end
end SI
end Go.Proofs.Ytpbodonmiepilaa
/- Stable sorts, plainly: lists of sorted blocks. No program in sight. -/
namespace Go.Proofs.Ytpbodonmiepilaa

section
variable {α : Type} {key : α → Int}
/-- Sorted blocks, each of b. -/
inductive FullC (key : α → Int) (b : Nat) : List α → Prop
  | nil : FullC key b []
  | cons {x r : List α} : x.length = b → Srt key x → FullC key b r → FullC key b (x ++ r)
theorem FullC.snoc {b : Nat} {p x : List α} (h : FullC key b p) (hl : x.length = b) (hs : Srt key x) : FullC key b (p ++ x) := by
  induction h with
  | nil => have := FullC.cons hl hs (FullC.nil (key := key) (b := b)); simpa using this
  | cons h1 h2 _ ih => rw [List.append_assoc]; exact .cons h1 h2 ih
theorem FullC.len {b : Nat} {p : List α} (h : FullC key b p) : ∃ q, p.length = q * b := by
  induction h with
  | nil => exact ⟨0, by simp⟩
  | cons h1 _ _ ih => obtain ⟨q, hq⟩ := ih; exact ⟨q + 1, by rw [List.length_append, h1, hq, Nat.add_mul]; omega⟩
theorem FullC.front {b : Nat} {p : List α} (h : FullC key b p) (hp : 0 < p.length) : ∃ x r, p = x ++ r ∧ x.length = b ∧ Srt key x ∧ FullC key b r := by
  cases h with
  | nil => simp at hp
  | cons h1 h2 h3 => exact ⟨_, _, rfl, h1, h2, h3⟩
/-- Two blocks at the front. -/
theorem FullC.two {b : Nat} {p : List α} (h : FullC key b p) (hp : b < p.length) : ∃ x y r, p = x ++ y ++ r ∧ x.length = b ∧ y.length = b ∧ Srt key x ∧ Srt key y ∧ FullC key b r := by
  obtain ⟨x, r, rfl, h1, h2, h3⟩ := h.front (by omega)
  obtain ⟨y, r2, rfl, h4, h5, h6⟩ := h3.front (by rw [List.length_append] at hp; omega)
  exact ⟨x, y, r2, by simp, h1, h4, h2, h5, h6⟩
theorem FullC.one {b : Nat} {p : List α} (h : FullC key b p) (hp : p.length ≤ b) (hb : 0 < b) : p = [] ∨ p.length = b ∧ Srt key p := by
  rcases Nat.eq_zero_or_pos p.length with h0 | h0
  · exact .inl (List.eq_nil_of_length_eq_zero h0)
  · obtain ⟨x, r, rfl, h1, h2, h3⟩ := h.front h0
    rw [List.length_append] at hp
    have : r = [] := List.eq_nil_of_length_eq_zero (by omega)
    subst this
    exact .inr ⟨by simpa using h1, by simpa using h2⟩
end
end Go.Proofs.Ytpbodonmiepilaa
/- The stable sort of slices of ints: the walk of stable. (Written by tools/srt.py.) -/
namespace Go.Proofs.Ytpbodonmiepilaa
open Go.RowKit
namespace SI
section
variable {w0 w : World} {ps : List Piece} {ok : Int → Prop} {key : Int → Int} {B : Nat}
set_option maxRecDepth 100000 in
set_option maxHeartbeats 6400000 in
theorem stable_any {g c N : Nat} {l : List Int} (hcmp : Cmps w0 ps B ok key) (hok : ∀ x ∈ l, ok x) (hN : N = l.length) (hNb : N ≤ 1000000)
    (H : Own w0 w (slc 3 1 (.slice (some ⟨g, 0, none⟩) N c) N (rows ie l) :: ps)) :
    Calls Try.prog 97 #[.slice (some ⟨g, 0, none⟩) N c, .int .i64 N, cf B] w (Ret fun _ w' => Own w0 w' (slc 3 1 (.slice (some ⟨g, 0, none⟩) N c) N (rows ie (sortF key l)) :: ps)) := by
  have HN := Lib.hid hN
  have HC := Lib.hid hcmp
  have HOK := Lib.hid hok
  clear hN hcmp hok
  go_enter Try.func97, Try.ntmps97
  go_upto_block 0 with (fail)
  go_cut [7] (fun s7 wx => ∃ (a : Nat) (P R : List Int), s7 = .int .i64 a ∧ a ≤ N ∧ N < a + 20 ∧ Hid (P.length = a) ∧ Hid (StEq key l (P ++ R)) ∧ Hid (FullC key 20 P) ∧ Own w0 wx (slc 3 1 (.slice (some ⟨g, 0, none⟩) N c) N (rows ie (P ++ R)) :: ps))
  case first =>
    go_wp2_with fail
    go_loopw [7, 8] (fun s7 s8 wx => ∃ (a : Nat) (P R : List Int), s7 = .int .i64 a ∧ s8 = .int .i64 ((a : Int) + 20) ∧ a ≤ N ∧ Hid (P.length = a) ∧ Hid (StEq key l (P ++ R)) ∧ Hid (FullC key 20 P) ∧ Own w0 wx (slc 3 1 (.slice (some ⟨g, 0, none⟩) N c) N (rows ie (P ++ R)) :: ps)) (fun s7 _ _ => N - (intOf s7).toNat)
    case atStart => exact ⟨0, [], l, rfl, by go_num, by omega, Lib.hid rfl, Lib.hid (StEq.refl _), Lib.hid .nil, by simpa using H⟩
    case round =>
      clear H
      obtain ⟨a, P, R, rfl, rfl, ha, hP, hl, hF, H⟩ := hrel
      have hlen : Hid (P.length + R.length = N) := Lib.hid (by have := hl.out.length; rw [List.length_append] at this; have := HN.out; omega)
      by_cases hab : a + 20 ≤ N
      · obtain ⟨S, R2, hRs, hS⟩ := split_at R 20 (by have := hlen.out; have := hP.out; omega)
        subst hRs
        have e1 : P ++ (S ++ R2) = P ++ S ++ R2 := by simp
        rw [e1] at H
        obtain ⟨bn, hbn⟩ : ∃ bn, bn = a + 20 := ⟨_, rfl⟩
        have hbI : ((a : Int) + 20) = (bn : Int) := by omega
        have hbN : (bn : Int) ≤ (N : Int) := by omega
        have hNl : N = (P ++ S ++ R2).length := by rw [← e1, List.length_append]; exact hlen.out.symm
        have hi := insert_any (p := P) (s := S) (q := R2) (a := a) (b := bn) HC.out (fun v hv => HOK.out v (hl.out.symm.mem (by simp [hv]))) hP.out.symm (by omega) hNl hNb H
        have HI := Lib.hid hi
        have hbn2 : Hid (bn = a + 20) := Lib.hid hbn
        have hb20 : a + 20 ≤ bn := by omega
        have hbN2 : bn ≤ N := by omega
        have HS := Lib.hid hS
        clear hi hbn hNl e1 hab hlen hS
        go_wp2_with fail
        refine HI.out.mono ?_
        rintro e w3 ⟨_, rfl, s', hs', he', H3⟩
        have hsl : s'.length = 20 := by rw [← he'.length]; exact HS.out
        have hl2 : Hid (StEq key l ((P ++ s') ++ R2)) := Lib.hid (hl.out.trans (by
          have := ((StEq.refl (key := key) P).app he').app (StEq.refl R2)
          simpa using this))
        have hF2 : Hid (FullC key 20 (P ++ s')) := Lib.hid (hF.out.snoc hsl hs')
        have hP2 : Hid ((P ++ s').length = bn) := Lib.hid (by rw [List.length_append, hsl, hP.out]; exact hbn2.out.symm)
        clear HI H he' hs' hsl
        go_wp2
        go_roundw
        case rel => exact ⟨bn, P ++ s', R2, by go_num, by go_num, by omega, hP2, hl2, hF2, H3⟩
        case measure => simp [intOf]; omega
      · have hnb : ¬ ((a : Int) + 20 ≤ (N : Int)) := by omega
        go_wp2
        go_meet
        exact ⟨a, P, R, rfl, ha, by omega, hP, hl, hF, H⟩
  case rest =>
    clear H
    obtain ⟨a, P, R, rfl, ha, ha2, hP, hl, hF, H⟩ := hcut
    have hlen : Hid (P.length + R.length = N) := Lib.hid (by have := hl.out.length; rw [List.length_append] at this; have := HN.out; omega)
    have e1 : P ++ R = P ++ R ++ [] := by simp
    rw [e1] at H
    have hNl : N = (P ++ R ++ []).length := by rw [← e1, List.length_append]; exact hlen.out.symm
    have hi := insert_any (p := P) (s := R) (q := []) (a := a) (b := N) HC.out (fun v hv => HOK.out v (hl.out.symm.mem (by simp [hv]))) hP.out.symm (by have := hlen.out; have := hP.out; omega) hNl hNb H
    have HI := Lib.hid hi
    clear hi hNl e1
    go_upto_region 6 with (fail)
    go_wp2_with fail
    refine HI.out.mono ?_
    rintro e w3 ⟨_, rfl, R', hs', he', H3⟩
    have hRl : Hid (R'.length + a = N) := Lib.hid (by rw [← he'.length]; have := hlen.out; have := hP.out; omega)
    have hl2 : Hid (StEq key l (P ++ R')) := Lib.hid (hl.out.trans ((StEq.refl (key := key) P).app he'))
    rw [List.append_nil] at H3
    have HS' := Lib.hid hs'
    clear HI H he' hs' hlen hl
    go_wp2_with fail
    go_loopw [6] (fun s6 wx => ∃ (bs : Nat) (P R : List Int), s6 = .int .i64 bs ∧ 20 ≤ bs ∧ bs ≤ 2 * N + 20 ∧ Hid (StEq key l (P ++ R)) ∧ Hid (FullC key bs P) ∧ Hid (Srt key R) ∧ Hid (R.length < bs) ∧ Own w0 wx (slc 3 1 (.slice (some ⟨g, 0, none⟩) N c) N (rows ie (P ++ R)) :: ps)) (fun s6 _ => 2 * N + 21 - (intOf s6).toNat)
    case atStart => exact ⟨20, P, R', by go_num, by omega, by omega, hl2, hF, HS', Lib.hid (by have := hRl.out; omega), H3⟩
    case round =>
      clear H3 hl2 hF HS' hRl hP ha ha2
      obtain ⟨bs, P, R, rfl, hb1, hb2, hl, hF, hS, hRb, H⟩ := hrel
      have hlen : Hid (P.length + R.length = N) := Lib.hid (by have := hl.out.length; rw [List.length_append] at this; have := HN.out; omega)
      by_cases hbN : bs < N
      · have hbNI : (bs : Int) < (N : Int) := by omega
        obtain ⟨b2, hb2'⟩ : ∃ b2, b2 = 2 * bs := ⟨_, rfl⟩
        have hb2I : (2 * (bs : Int)) = (b2 : Int) := by omega
        have hb2J : ((bs : Int) * 2) = (b2 : Int) := by omega
        have HB2 := Lib.hid hb2'
        have hb2b : bs + bs ≤ b2 ∧ b2 ≤ bs + bs := ⟨by omega, by omega⟩
        obtain ⟨hb2b1, hb2b2⟩ := hb2b
        clear hb2'
        go_upto_block 4 with (fail)
        go_cut [7] (fun s7 wx => ∃ (a : Nat) (P2 P1 : List Int), s7 = .int .i64 a ∧ a ≤ N ∧ N < a + b2 ∧ Hid (P2.length = a) ∧ Hid (StEq key l (P2 ++ P1 ++ R)) ∧ Hid (FullC key b2 P2) ∧ Hid (FullC key bs P1) ∧ Own w0 wx (slc 3 1 (.slice (some ⟨g, 0, none⟩) N c) N (rows ie (P2 ++ P1 ++ R)) :: ps))
        case first =>
          go_wp2_with fail
          go_loopw [7, 8] (fun s7 s8 wx => ∃ (a : Nat) (P2 P1 : List Int), s7 = .int .i64 a ∧ s8 = .int .i64 ((a : Int) + b2) ∧ a ≤ N ∧ Hid (P2.length = a) ∧ Hid (StEq key l (P2 ++ P1 ++ R)) ∧ Hid (FullC key b2 P2) ∧ Hid (FullC key bs P1) ∧ Own w0 wx (slc 3 1 (.slice (some ⟨g, 0, none⟩) N c) N (rows ie (P2 ++ P1 ++ R)) :: ps)) (fun s7 _ _ => N - (intOf s7).toNat)
          case atStart => exact ⟨0, [], P, by go_num, by go_num, by omega, Lib.hid rfl, Lib.hid (by simpa using hl.out), Lib.hid .nil, hF, by simpa using H⟩
          case round =>
            clear H hl hF
            obtain ⟨a, P2, P1, rfl, rfl, ha, hP2, hl, hF2, hF1, H⟩ := hrel
            have hlen2 : Hid (P2.length + P1.length + R.length = N) := Lib.hid (by have := hl.out.length; rw [List.length_append, List.length_append] at this; have := HN.out; omega)
            by_cases hab : a + b2 ≤ N
            · obtain ⟨x, y, r, hP1, hx, hy, hsx, hsy, hFr⟩ := hF1.out.two (by have := hlen2.out; have := hP2.out; have := hRb.out; omega)
              subst hP1
              have e1 : P2 ++ (x ++ y ++ r) ++ R = P2 ++ x ++ y ++ (r ++ R) := by simp
              rw [e1] at H
              obtain ⟨mn, hmn⟩ : ∃ mn, mn = a + bs := ⟨_, rfl⟩
              obtain ⟨bn, hbn⟩ : ∃ bn, bn = a + b2 := ⟨_, rfl⟩
              have hmI : ((a : Int) + (bs : Int)) = (mn : Int) := by omega
              have hbI : ((a : Int) + (b2 : Int)) = (bn : Int) := by omega
              have hbnN : (bn : Int) ≤ (N : Int) := by omega
              have hNl : N = (P2 ++ x ++ y ++ (r ++ R)).length := by rw [← e1]; have := hl.out.length; rw [← this]; exact HN.out
              have hokx : ∀ v ∈ x, ok v := fun v hv => HOK.out v (hl.out.symm.mem (by simp [hv]))
              have hoky : ∀ v ∈ y, ok v := fun v hv => HOK.out v (hl.out.symm.mem (by simp [hv]))
              have hi := sym_any HC.out hNb (x.length + y.length) wr P2 x y (r ++ R) a mn bn (Nat.le_refl _) hokx hoky hsx hsy hP2.out.symm (by omega) (by omega) (by omega) (by omega) hNl H
              have HI := Lib.hid hi
              have HX := Lib.hid (And.intro hx hy)
              have HFr := Lib.hid hFr
              have hbn2 : Hid (bn = a + b2) := Lib.hid hbn
              have hbnN2 : bn ≤ N := by omega
              have habn : a + b2 ≤ bn := by omega
              clear hi hmn hbn hNl e1 hab hokx hoky hsx hsy hx hy hFr hlen2
              go_wp2_with fail
              refine HI.out.mono ?_
              rintro e w4 ⟨_, rfl, z, hz, H4⟩
              have hzl : z.length = b2 := by rw [← hz.2.length, List.length_append, HX.out.1, HX.out.2]; omega
              have hl3 : Hid (StEq key l ((P2 ++ z) ++ r ++ R)) := Lib.hid (hl.out.trans (by
                have := ((StEq.refl (key := key) P2).app hz.2).app (StEq.refl (r ++ R))
                simpa using this))
              have hF3 : Hid (FullC key b2 (P2 ++ z)) := Lib.hid (hF2.out.snoc hzl hz.1)
              have hP3 : Hid ((P2 ++ z).length = bn) := Lib.hid (by rw [List.length_append, hzl, hP2.out]; exact hbn2.out.symm)
              clear HI H hz hzl
              go_wp2
              go_roundw
              case rel => exact ⟨bn, P2 ++ z, r, by go_num, by go_num, by omega, hP3, hl3, hF3, HFr, by simpa using H4⟩
              case measure => simp [intOf]; omega
            · have hnb : ¬ ((a : Int) + (b2 : Int) ≤ (N : Int)) := by omega
              go_wp2
              go_meet
              exact ⟨a, P2, P1, rfl, ha, by omega, hP2, hl, hF2, hF1, H⟩
        case rest =>
          clear H hl hF
          obtain ⟨a, P2, P1, rfl, ha, hab, hP2, hl, hF2, hF1, H⟩ := hcut
          have hlen2 : Hid (P2.length + P1.length + R.length = N) := Lib.hid (by have := hl.out.length; rw [List.length_append, List.length_append] at this; have := HN.out; omega)
          obtain ⟨mn, hmn⟩ : ∃ mn, mn = a + bs := ⟨_, rfl⟩
          have hmI : ((a : Int) + (bs : Int)) = (mn : Int) := by omega
          have HMN := Lib.hid hmn
          have hmn2 : mn ≤ 4 * N + 40 := by omega
          clear hmn
          by_cases hmN : mn < N
          · have hmNI : (mn : Int) < (N : Int) := by omega
            obtain ⟨x, r, hP1, hx, hsx, hFr⟩ := hF1.out.front (by have := hlen2.out; have := hP2.out; have := hRb.out; have := HMN.out; omega)
            have hr0 : r = [] := by
              obtain ⟨q, hq⟩ := hFr.len
              have h1 := hlen2.out; have h2 := hP2.out
              rw [hP1, List.length_append] at h1
              rcases Nat.eq_zero_or_pos q with h | h
              · subst h; exact List.eq_nil_of_length_eq_zero (by omega)
              · have := Nat.mul_le_mul_right bs h; omega
            subst hr0
            rw [List.append_nil] at hP1
            subst hP1
            have e1 : P2 ++ P1 ++ R = P2 ++ P1 ++ R ++ [] := by simp
            rw [e1] at H
            have hNl : N = (P2 ++ P1 ++ R ++ []).length := by rw [← e1]; have := hl.out.length; rw [← this]; exact HN.out
            have hi := sym_any HC.out hNb (P1.length + R.length) wc P2 P1 R [] a mn N (Nat.le_refl _) (fun v hv => HOK.out v (hl.out.symm.mem (by simp [hv]))) (fun v hv => HOK.out v (hl.out.symm.mem (by simp [hv]))) hsx hS.out hP2.out.symm (by have := HMN.out; omega) (by have := hlen2.out; have := hP2.out; have := HMN.out; omega) (by omega) (by have := hlen2.out; have := hP2.out; have := HMN.out; omega) hNl H
            have HI := Lib.hid hi
            clear hi hNl e1 hsx hFr
            go_wp2_with fail
            refine HI.out.mono ?_
            rintro e w4 ⟨_, rfl, z, hz, H4⟩
            have hzl : Hid (z.length < b2) := Lib.hid (by rw [← hz.2.length, List.length_append, hx]; have := hRb.out; omega)
            have hl3 : Hid (StEq key l (P2 ++ z)) := Lib.hid (hl.out.trans (by
              have := (StEq.refl (key := key) P2).app hz.2
              simpa using this))
            have hzs : Hid (Srt key z) := Lib.hid hz.1
            rw [List.append_nil] at H4
            clear HI H hz hx
            go_wp2
            go_roundw
            case rel => exact ⟨b2, P2, z, by go_num, by omega, by omega, hl3, hF2, hzs, hzl, H4⟩
            case measure => simp [intOf]; omega
          · have hmNI : ¬ ((mn : Int) < (N : Int)) := by omega
            have hsrt : Hid (Srt key (P1 ++ R)) := Lib.hid (by
              rcases hF1.out.one (by have := hlen2.out; have := hP2.out; have := HMN.out; omega) (by omega) with h | ⟨h, hs⟩
              · rw [h]; exact hS.out
              · have : R = [] := List.eq_nil_of_length_eq_zero (by have := hlen2.out; have := hP2.out; have := HMN.out; omega)
                rw [this, List.append_nil]; exact hs)
            have hl3 : Hid (StEq key l (P2 ++ (P1 ++ R))) := Lib.hid (by simpa using hl.out)
            have hzl : Hid ((P1 ++ R).length < b2) := Lib.hid (by rw [List.length_append]; have := hlen2.out; have := hP2.out; omega)
            rw [List.append_assoc] at H
            clear hmN
            go_wp2
            go_roundw
            case rel => exact ⟨b2, P2, P1 ++ R, by go_num, by omega, by omega, hl3, hF2, hsrt, hzl, H⟩
            case measure => simp [intOf]; omega
      · have hsrt : Hid (P ++ R = sortF key l) := Lib.hid (by
          refine sortF_unique ?_ hl.out
          rcases hF.out.one (by have := hlen.out; omega) (by omega) with h | ⟨h, hs⟩
          · rw [h]; exact hS.out
          · have : R = [] := List.eq_nil_of_length_eq_zero (by have := hlen.out; omega)
            rw [this, List.append_nil]; exact hs)
        have hnb : ¬ ((bs : Int) < (N : Int)) := by omega
        clear hbN
        go_wp2
        go_end0
        exact ⟨_, rfl, by rw [← hsrt.out]; exact H⟩
end
end SI
end Go.Proofs.Ytpbodonmiepilaa
/- The stable sort of slices of coins: the walk of rotate. (Written by tools/srt.py.) -/
namespace Go.Proofs.Ytpbodonmiepilaa
open Go.RowKit
namespace SC
theorem split_at {α : Type} (l : List α) (n : Nat) (h : n ≤ l.length) : ∃ a b, l = a ++ b ∧ a.length = n := ⟨l.take n, l.drop n, (List.take_append_drop n l).symm, by simp; omega⟩
section
variable {w0 w : World} {ps : List Piece}
set_option maxRecDepth 100000 in
set_option maxHeartbeats 3200000 in
theorem rotate_any {g c N : Nat} {p x y q : List Coin} {a m b : Nat} (cmp : Value) (ha : a = p.length) (hm : m = a + x.length) (hb : b = m + y.length) (hx0 : 0 < x.length) (hy0 : 0 < y.length) (hN : N = (p ++ x ++ y ++ q).length) (hNb : N ≤ 1000000)
    (H : Own w0 w (slc 129 2 (.slice (some ⟨g, 0, none⟩) N c) N (rows ce (p ++ x ++ y ++ q)) :: ps)) :
    Calls Try.prog 109 #[.slice (some ⟨g, 0, none⟩) N c, .int .i64 a, .int .i64 m, .int .i64 b, cmp] w (Ret fun _ w' => Own w0 w' (slc 129 2 (.slice (some ⟨g, 0, none⟩) N c) N (rows ce (p ++ y ++ x ++ q)) :: ps)) := by
  obtain ⟨T, hT⟩ : ∃ T, Hid (T = p ++ y ++ x ++ q) := ⟨_, Lib.hid rfl⟩
  rw [← hT.out]
  have hbN : b ≤ N := by rw [hN]; simp only [List.length_append]; omega
  obtain ⟨i0, hi0⟩ : ∃ i, Hid (x.length = i) := ⟨_, rfl⟩
  obtain ⟨j0, hj0⟩ : ∃ j, Hid (y.length = j) := ⟨_, rfl⟩
  rw [hi0.out] at hx0 hm
  rw [hj0.out] at hy0 hb
  have hNn : Hid ((p ++ x ++ y ++ q).length = N) := Lib.hid hN.symm
  have HP := Lib.hid ha
  have ham : m = a + i0 := hm
  have hbm : b = m + j0 := hb
  clear ha hN
  go_enter Try.func109, Try.ntmps109
  have e1 : ((m : Int) - (a : Int)) = (i0 : Int) := by omega
  have e2 : ((b : Int) - (m : Int)) = (j0 : Int) := by omega
  have hst : a + i0 = m ∧ m + j0 ≤ N := ⟨by omega, by omega⟩
  have HST := Lib.hid hst
  have ham2 : a ≤ m := by omega
  have hmb2 : m ≤ b := by omega
  have hbN2 : b ≤ N := by omega
  clear ham hm hst hb hbN hbm
  go_upto_region 2 with (fail)
  go_loopw [10, 11] (fun s10 s11 wx => ∃ (i j pl : Nat) (X Y P Q : List Coin), s10 = .int .i64 i ∧ s11 = .int .i64 j ∧ 1 ≤ i ∧ 1 ≤ j ∧ pl + i = m ∧ m + j ≤ N ∧ Hid (X.length = i) ∧ Hid (Y.length = j) ∧ Hid (P.length = pl) ∧ Hid ((P ++ X ++ Y ++ Q).length = N) ∧ Hid (T = P ++ Y ++ X ++ Q) ∧ Own w0 wx (slc 129 2 (.slice (some ⟨g, 0, none⟩) N c) N (rows ce (P ++ X ++ Y ++ Q)) :: ps)) (fun s10 s11 _ => (intOf s10).toNat + (intOf s11).toNat)
  case atStart => exact ⟨i0, j0, a, x, y, p, q, by rw [← e1]; try go_num, by rw [← e2]; try go_num, by omega, by omega, HST.out.1, HST.out.2, hi0, hj0, Lib.hid HP.out.symm, hNn, hT, H⟩
  case round =>
    clear H hNn hT HP hi0 hj0 e1 e2
    obtain ⟨i, j, pl, X, Y, P, Q, rfl, rfl, hi, hj, hpl, hmj, hX, hY, hP, hLn, hT, H⟩ := hrel
    have em : ((m : Int) - (i : Int)) = (pl : Int) := by omega
    have hN1 : (m : Int) + (j : Int) ≤ (N : Int) := by omega
    rcases Nat.lt_trichotomy i j with hij | hij | hij
    · -- the first part is the shorter one
      obtain ⟨d, rfl⟩ : ∃ d, j = d + i := ⟨j - i, by omega⟩
      obtain ⟨bd, hbd⟩ : ∃ bd, bd = m + d := ⟨_, rfl⟩
      have eb : ((m : Int) + ((d + i : Nat) : Int) - (i : Int)) = (bd : Int) := by omega
      have eb' : ((m : Int) + ((d : Int) + (i : Int)) - (i : Int)) = (bd : Int) := by omega
      have ed : ((d : Int) + (i : Int) - (i : Int)) = (d : Int) := by omega
      obtain ⟨Y1, Y2, hYs, hY1⟩ := split_at Y d (by rw [hY.out]; omega)
      subst hYs
      have hY2 : Y2.length = i := by have := hY.out; rw [List.length_append] at this; omega
      have hne : ((i : Int) == ((d : Int) + (i : Int))) = false := by simp; omega
      have hng : ¬ ((d : Int) + (i : Int) < (i : Int)) := by omega
      have el1 : P ++ X ++ (Y1 ++ Y2) ++ Q = P ++ X ++ Y1 ++ Y2 ++ Q := by simp
      rw [el1] at H
      have hLn' : N = (P ++ X ++ Y1 ++ Y2 ++ Q).length := by rw [← el1]; exact hLn.out.symm
      have hNb' : N ≤ 1000000 := hNb
      have hsw := swap_any (w0 := w0) (w := wr) (ps := ps) (g := g) (c := c) (N := N) (p := P) (x := X) (m := Y1) (y := Y2) (q := Q) (a := pl) (b := bd) (n := i) cmp (by rw [hP.out]) (by rw [hX.out, hY1, hbd]; omega) (by rw [hX.out]) (by rw [hY2, hX.out]) hLn' hNb H
      have HSW := Lib.hid hsw
      have el2 : P ++ Y2 ++ Y1 ++ X ++ Q = P ++ Y2 ++ Y1 ++ (X ++ Q) := by simp
      have hT' : Hid (T = P ++ Y1 ++ Y2 ++ (X ++ Q)) := Lib.hid (by rw [hT.out]; simp)
      have hX' : Hid (Y2.length = i) := Lib.hid hY2
      have hY' : Hid (Y1.length = d) := Lib.hid hY1
      have hLn2 : Hid ((P ++ Y2 ++ Y1 ++ (X ++ Q)).length = N) := Lib.hid (by rw [hLn']; simp only [List.length_append]; omega)
      rw [el2] at HSW
      clear hsw el1 el2 hLn' hY1 hY2 hT hX hY hLn hbd
      go_wp2_with fail
      refine HSW.out.mono ?_
      rintro e w3 ⟨_, rfl, H3⟩
      clear HSW H
      go_wp2
      go_roundw
      case rel => exact ⟨i, d, pl, Y2, Y1, P, X ++ Q, rfl, by go_num, by omega, by omega, hpl, by omega, hX', hY', hP, hLn2, hT', H3⟩
      case measure => simp [intOf]; omega
    · subst hij
      have hLn' : N = (P ++ X ++ [] ++ Y ++ Q).length := by have := hLn.out; rw [← this]; simp
      have H' : Own w0 wr (slc 129 2 (.slice (some ⟨g, 0, none⟩) N c) N (rows ce (P ++ X ++ [] ++ Y ++ Q)) :: ps) := by simpa using H
      have hsw := swap_any (w0 := w0) (w := wr) (ps := ps) (g := g) (c := c) (N := N) (p := P) (x := X) (m := []) (y := Y) (q := Q) (a := pl) (b := m) (n := i) cmp (by rw [hP.out]) (by rw [hX.out]; simp; omega) (by rw [hX.out]) (by rw [hY.out, hX.out]) hLn' hNb H'
      have HSW := Lib.hid hsw
      clear hsw H' hLn'
      go_wp2_with fail
      refine HSW.out.mono ?_
      rintro e w3 ⟨_, rfl, H3⟩
      clear HSW H
      go_wp2
      go_end0
      exact ⟨_, rfl, by rw [hT.out]; simpa using H3⟩
    · obtain ⟨d, rfl⟩ : ∃ d, i = j + d := ⟨i - j, by omega⟩
      obtain ⟨X1, X2, hXs, hX1⟩ := split_at X j (by rw [hX.out]; omega)
      subst hXs
      have hX2 : X2.length = d := by have := hX.out; rw [List.length_append] at this; omega
      have em' : ((m : Int) - ((j : Int) + (d : Int))) = (pl : Int) := by omega
      have ed : ((j : Int) + (d : Int) - (j : Int)) = (d : Int) := by omega
      have hne : (((j : Int) + (d : Int)) == (j : Int)) = false := by simp; omega
      have hng : ((j : Int) < (j : Int) + (d : Int)) := by omega
      have el1 : P ++ (X1 ++ X2) ++ Y ++ Q = P ++ X1 ++ X2 ++ Y ++ Q := by simp
      rw [el1] at H
      have hLn' : N = (P ++ X1 ++ X2 ++ Y ++ Q).length := by rw [← el1]; exact hLn.out.symm
      have hsw := swap_any (w0 := w0) (w := wr) (ps := ps) (g := g) (c := c) (N := N) (p := P) (x := X1) (m := X2) (y := Y) (q := Q) (a := pl) (b := m) (n := j) cmp (by rw [hP.out]) (by rw [hX1, hX2]; omega) (by rw [hX1]) (by rw [hY.out, hX1]) hLn' hNb H
      have HSW := Lib.hid hsw
      have el2 : P ++ Y ++ X2 ++ X1 ++ Q = (P ++ Y) ++ X2 ++ X1 ++ Q := by simp
      have hT' : Hid (T = (P ++ Y) ++ X1 ++ X2 ++ Q) := Lib.hid (by rw [hT.out]; simp)
      have hX' : Hid (X2.length = d) := Lib.hid hX2
      have hY' : Hid (X1.length = j) := Lib.hid hX1
      have hP' : Hid ((P ++ Y).length = pl + j) := Lib.hid (by rw [List.length_append, hP.out, hY.out])
      have hLn2 : Hid (((P ++ Y) ++ X2 ++ X1 ++ Q).length = N) := Lib.hid (by rw [hLn']; simp only [List.length_append]; omega)
      clear hsw el1 el2 hLn' hX1 hX2 hT hX hY hLn hP
      go_wp2_with fail
      refine HSW.out.mono ?_
      rintro e w3 ⟨_, rfl, H3⟩
      clear HSW H
      go_wp2
      go_roundw
      case rel => exact ⟨d, j, pl + j, X2, X1, P ++ Y, Q, by go_num, rfl, by omega, by omega, by omega, by omega, hX', hY', hP', hLn2, hT', H3⟩
      case measure => simp [intOf]; omega
end
end SC
end Go.Proofs.Ytpbodonmiepilaa
/- The stable sort of slices of coins: the walk of insertionSort. (Written by tools/srt.py.) -/
namespace Go.Proofs.Ytpbodonmiepilaa
open Go.RowKit
namespace SC
/-- The function that compares. -/
abbrev cf (_B : Nat) : Value := .func (.func 101) #[] #[]
abbrev ca (_B : Nat) (x y : Coin) : Array Value := #[cval x, cval y]
abbrev cg : Nat := 101
/-- What is asked of it. -/
def Cmps (w0 : World) (ps : List Piece) (B : Nat) (ok : Coin → Prop) (key : Coin → Int) : Prop :=
  ∀ (wz : World) (row : Piece), Own w0 wz (row :: ps) → ∀ x y, ok x → ok y → Calls Try.prog cg (ca B x y) wz (Ret fun v w' => v = .int .i64 (cmpI (key x) (key y)) ∧ Own wz w' [])
section
variable {w0 w : World} {ps : List Piece} {ok : Coin → Prop} {key : Coin → Int} {B : Nat}
set_option maxRecDepth 100000 in
set_option maxHeartbeats 3200000 in
theorem insert_any {g c N : Nat} {p s q : List Coin} {a b : Nat} (hcmp : Cmps w0 ps B ok key) (hok : ∀ x ∈ s, ok x) (ha : a = p.length) (hb : b = a + s.length) (hN : N = (p ++ s ++ q).length) (hNb : N ≤ 1000000)
    (H : Own w0 w (slc 129 2 (.slice (some ⟨g, 0, none⟩) N c) N (rows ce (p ++ s ++ q)) :: ps)) :
    Calls Try.prog 106 #[.slice (some ⟨g, 0, none⟩) N c, .int .i64 a, .int .i64 b, cf B] w (Ret fun _ w' => ∃ s', Srt key s' ∧ StEq key s s' ∧ Own w0 w' (slc 129 2 (.slice (some ⟨g, 0, none⟩) N c) N (rows ce (p ++ s' ++ q)) :: ps)) := by
  have hbN : b ≤ N := by rw [hN]; simp only [List.length_append]; omega
  have hNc : N ≤ c := by obtain ⟨_, _, e, h1, _⟩ := H.rd.shape; cases e; exact h1
  have hc2 : c ≤ 9223372036854775807 := by obtain ⟨_, _, e, _, h1⟩ := H.rd.shape; cases e; exact h1
  have HP := Lib.hid ha
  have HB := Lib.hid hb
  have HN := Lib.hid hN
  have HC := Lib.hid hcmp
  have HOK := Lib.hid hok
  have hab : a ≤ b := by omega
  clear ha hb hN hcmp hok
  go_enter Try.func106, Try.ntmps106
  by_cases hs0 : s.length = 0
  · have hs : s = [] := List.eq_nil_of_length_eq_zero hs0
    have hba : Hid (b = a) := Lib.hid (by rw [HB.out, hs0]; rfl)
    have hlt : ¬ ((a : Int) + 1 < (b : Int)) := by rw [hba.out]; omega
    subst hs
    clear hs0
    go_wp2_with fail
    go_loop [8] (fun s8 => s8 = .int .i64 ((a : Int) + 1)) (fun _ => 0)
    case atStart => go_num
    case round =>
      obtain rfl := hrel
      go_wp2
      go_end0
      exact ⟨_, rfl, [], List.Pairwise.nil, StEq.refl _, by simpa using H⟩
  · have hs1 : a + 1 ≤ b := by have := HB.out; omega
    go_wp2_with fail
    go_loopw [8] (fun s8 wx => ∃ (i : Nat) (S1 S2 U : List Coin), a + 1 ≤ i ∧ i ≤ b ∧ s8 = .int .i64 i ∧ Hid (s = S1 ++ S2) ∧ Hid (a + S1.length = i) ∧ Hid (Srt key U) ∧ Hid (StEq key S1 U) ∧ Own w0 wx (slc 129 2 (.slice (some ⟨g, 0, none⟩) N c) N (rows ce (p ++ U ++ S2 ++ q)) :: ps)) (fun s8 _ => b - (intOf s8).toNat)
    case atStart =>
      obtain ⟨x, s2, hs⟩ : ∃ x s2, s = x :: s2 := by
        cases s with
        | nil => simp at hs0
        | cons x s2 => exact ⟨x, s2, rfl⟩
      exact ⟨a + 1, [x], s2, [x], by omega, hs1, by go_num, Lib.hid (by rw [hs]; rfl), Lib.hid rfl, Lib.hid (List.pairwise_singleton ..), Lib.hid (StEq.refl _), by rw [hs] at H; simpa using H⟩
    case round =>
      clear H hs0
      obtain ⟨i, S1, S2, U, hi1, hi2, rfl, hs, hl, hU, hSU, H⟩ := hrel
      by_cases hib : i < b
      · obtain ⟨x, S3, hS2⟩ : ∃ x S3, S2 = x :: S3 := by
          cases S2 with
          | nil => exfalso; have h1 := HB.out; have h2 := hl.out; rw [hs.out] at h1; simp at h1; omega
          | cons x S3 => exact ⟨x, S3, rfl⟩
        subst hS2
        have hokx : ok x := HOK.out x (by rw [hs.out]; simp)
        have hokU : Hid (∀ u ∈ U, ok u) := Lib.hid fun u hu => HOK.out u (by rw [hs.out]; exact List.mem_append.2 (.inl (hSU.out.symm.mem hu)))
        have hUl : Hid (a + U.length = i) := Lib.hid (by rw [← hSU.out.length]; exact hl.out)
        have hibI : (i : Int) < (b : Int) := by omega
        go_upto_block 1 with (fail)
        go_cut [] (fun wx => ∃ U', Hid (Srt key U') ∧ Hid (StEq key (S1 ++ [x]) U') ∧ Own w0 wx (slc 129 2 (.slice (some ⟨g, 0, none⟩) N c) N (rows ce (p ++ U' ++ S3 ++ q)) :: ps))
        case first =>
          go_wp2_with fail
          go_loopw [9] (fun s9 wx => ∃ (j : Nat) (U1 U2 : List Coin), a ≤ j ∧ j ≤ i ∧ s9 = .int .i64 j ∧ Hid (U = U1 ++ U2) ∧ Hid (a + U1.length = j) ∧ Hid (∀ u ∈ U2, key x < key u) ∧ Own w0 wx (slc 129 2 (.slice (some ⟨g, 0, none⟩) N c) N (rows ce (p ++ U1 ++ x :: (U2 ++ S3 ++ q))) :: ps)) (fun s9 _ => (intOf s9).toNat)
          case atStart => exact ⟨i, U, [], by omega, by omega, rfl, Lib.hid (by simp), hUl, Lib.hid (by simp), by simpa using H⟩
          case round =>
            clear H
            obtain ⟨j, U1, U2, hj1, hj2, rfl, hU12, hU1, hgt, H⟩ := hrel
            have hfin : ∀ wz, (∀ u ∈ U1, key u ≤ key x) → Own w0 wz (slc 129 2 (.slice (some ⟨g, 0, none⟩) N c) N (rows ce (p ++ U1 ++ x :: (U2 ++ S3 ++ q))) :: ps) → ∃ U', Hid (Srt key U') ∧ Hid (StEq key (S1 ++ [x]) U') ∧ Own w0 wz (slc 129 2 (.slice (some ⟨g, 0, none⟩) N c) N (rows ce (p ++ U' ++ S3 ++ q)) :: ps) := by
              intro wz hle h
              have hs' : Srt key (U1 ++ U2) := by rw [← hU12.out]; exact hU.out
              have hm := Mrg.one_right (y := x) hs' hle hgt.out
              refine ⟨U1 ++ x :: U2, Lib.hid hm.1, Lib.hid (StEq.trans ((hSU.out.app (StEq.refl [x]))) (by rw [hU12.out]; exact hm.2)), ?_⟩
              simpa using h
            have HFIN := Lib.hid hfin
            clear hfin
            by_cases hja : a < j
            · obtain ⟨U3, u, hU3⟩ := last_split U1 (by have := hU1.out; omega)
              subst hU3
              have hjl : j = (p ++ U3).length + 1 := by
                have h1 := hU1.out
                have h2 := HP.out
                rw [List.length_append, List.length_singleton] at h1
                rw [List.length_append]
                omega
              have el1 : p ++ (U3 ++ [u]) ++ x :: (U2 ++ S3 ++ q) = (p ++ U3) ++ u :: ([] ++ x :: (U2 ++ S3 ++ q)) := by simp
              rw [el1] at H HFIN
              have hg1 : ((p ++ U3) ++ u :: ([] ++ x :: (U2 ++ S3 ++ q)))[j - 1]? = some u := get_mid _ _ _ (by omega)
              have hg2 : ((p ++ U3) ++ u :: ([] ++ x :: (U2 ++ S3 ++ q)))[j]? = some x := by
                have : (p ++ U3) ++ u :: ([] ++ x :: (U2 ++ S3 ++ q)) = ((p ++ U3) ++ [u]) ++ x :: (U2 ++ S3 ++ q) := by simp
                rw [this]
                exact get_mid _ _ _ (by simp only [List.length_append, List.length_cons, List.length_nil] at hjl ⊢; omega)
              have hLn : ((p ++ U3) ++ u :: ([] ++ x :: (U2 ++ S3 ++ q))).length = N := by
                have h1 := HN.out
                have h2 := hUl.out
                have h3 := hU12.out
                have h4 := hl.out
                rw [hs.out] at h1
                rw [h3] at h2
                simp only [List.length_append, List.length_cons, List.length_nil] at h1 h2 ⊢
                omega
              obtain ⟨j', rfl⟩ : ∃ j', j = j' + 1 := ⟨j - 1, by omega⟩
              have hsw := set_swap (p ++ U3) [] (U2 ++ S3 ++ q) u x (i := j') (j := j' + 1) (by omega) (by simp only [List.length_nil]; omega)
              rw [Nat.add_sub_cancel] at hg1
              obtain ⟨L, hL⟩ : ∃ L, Hid ((p ++ U3) ++ u :: ([] ++ x :: (U2 ++ S3 ++ q)) = L) := ⟨_, Lib.hid rfl⟩
              rw [hL.out] at H hg1 hg2 hsw hLn HFIN
              have HG1 := Lib.hid hg1
              have HG2 := Lib.hid hg2
              have e1 : (rows ce L).take ((j' + 1) * 2) ++ ce u ++ (rows ce L).drop ((j' + 1) * 2 + 2) = rows ce (L.set (j' + 1) u) := set_rows (by rw [hLn]; omega) u
              have e2 : (rows ce (L.set (j' + 1) u)).take (j' * 2) ++ ce x ++ (rows ce (L.set (j' + 1) u)).drop (j' * 2 + 2) = rows ce (p ++ U3 ++ x :: ((u :: U2) ++ S3 ++ q)) := by
                rw [set_rows (by rw [List.length_set, hLn]; omega) x, List.set_comm _ _ (by omega), hsw]
                simp
              have E1 := Lib.hid e1
              have E2 := Lib.hid e2
              have hU3l : Hid (a + U3.length = j') := Lib.hid (by have := HP.out; simp only [List.length_append] at hjl; omega)
              have hoku : ok u := hokU.out u (by rw [hU12.out]; simp)
              have hcall := fun (wz : World) (h : Own w0 wz (slc 129 2 (.slice (some ⟨g, 0, none⟩) N c) N (rows ce L) :: ps)) => HC.out wz _ h x u hokx hoku
              have hcl := cmpI_lt (key x) (key u)
              obtain ⟨cv, hcv⟩ : ∃ cv, Hid (cmpI (key x) (key u) = cv) := ⟨_, rfl⟩
              simp only [hcv.out] at hcall hcl
              have HCALL := Lib.hid hcall
              have hj1' : a ≤ j' := by omega
              have hjaI : (a : Int) < (j' : Int) + 1 := by omega
              have hjN : (j' : Int) + 1 < (N : Int) := by omega
              have hjT : ((j' : Int) + 1).toNat = j' + 1 := by omega
              have hjw : IntKind.i64.wrap (j' : Int) = (j' : Int) := IntWalk.i64_in _ ⟨by omega, by omega⟩
              have hjN0 : (j' : Int) < (N : Int) := by omega
              have hj0 : (0 : Int) ≤ (j' : Int) := by omega
              have hjs : ((j' : Int) + 1 - 1) = (j' : Int) := by omega
              clear hg1 hg2 hsw hLn e1 e2 el1 hjl hL hcall hja hU1 hj1
              go_upto_region 4 with (fail)
              refine wp_region_calm (fun w1 => Own w0 w1 (slc 129 2 (.slice (some ⟨g, 0, none⟩) N c) N (rows ce L) :: ps)) 16 (by kernel_rfl) (by kernel_rfl) H.drew ?_
              simp only [List.take_succ_cons, List.take_zero, List.drop_succ_cons, List.drop_zero]
              repeat
                first
                | (refine calm_value (v := ?_) (by decide) rfl (fun σ w1 hS => ?_) ?_
                   rotate_left
                   · obtain ⟨c1, c1'⟩ := el hS.rd HG1.out; obtain ⟨c2, c2'⟩ := el hS.rd HG2.out
                     first | (go_simp; rfl) | rfl
                   simp only [Act.put, List.setIfInBounds_toArray, List.set_cons_zero, List.set_cons_succ])
                | (refine calm_skip (by decide) rfl ?_
                   simp only [Act.put, List.setIfInBounds_toArray, List.set_cons_zero, List.set_cons_succ])
              refine calm_call (v := .int .i64 cv) (by decide) rfl (fun w1 => (by go_simp; first | exact ⟨rfl, rfl⟩ | rfl)) (fun σ w1 hS => ?_) ?_
              · refine (HCALL.out w1 hS).mono ?_
                rintro e w2 ⟨_, rfl, rfl, h2⟩
                exact ⟨rfl, hS.join h2⟩
              simp only [Act.put, List.setIfInBounds_toArray, List.set_cons_zero, List.set_cons_succ]
              repeat
                first
                | (refine calm_value (v := ?_) (by decide) rfl (fun σ w1 hS => ?_) ?_
                   rotate_left
                   · skip
                     first | (go_simp; rfl) | rfl
                   simp only [Act.put, List.setIfInBounds_toArray, List.set_cons_zero, List.set_cons_succ])
                | (refine calm_skip (by decide) rfl ?_
                   simp only [Act.put, List.setIfInBounds_toArray, List.set_cons_zero, List.set_cons_succ])
              refine calm_nil ?_
              intro wd HD
              clear H
              by_cases hxu : key x < key u
              · have hxu2 : decide (key x < key u) = true := by simp [hxu]
                have hgt2 : Hid (∀ v ∈ u :: U2, key x < key v) := Lib.hid fun v hv => by
                  rcases List.mem_cons.1 hv with rfl | hv
                  · exact hxu
                  · exact hgt.out v hv
                have hU' : Hid (U = U3 ++ (u :: U2)) := Lib.hid (by rw [hU12.out]; simp)
                rw [hxu2]
                clear hxu hxu2 HFIN hcl
                go_upto_region 6 with (fail)
                refine wp_region_pres (fun _ w1 => Own w0 w1 (slc 129 2 (.slice (some ⟨g, 0, none⟩) N c) N (rows ce L) :: ps)) 14 [] [2, 3, 4] (by kernel_rfl) (by kernel_rfl) (by kernel_rfl) (by kernel_rfl) (fun _ _ d _ _ h => by cases d <;> exact h) ⟨_, _, rfl, fun w => (by first | rfl | (go_simp; rfl)), _, _, rfl, fun w => (by first | rfl | (go_simp; rfl)), _, _, rfl, fun w => (by first | rfl | (go_simp; rfl)), rfl⟩ HD.drew ?_
                simp only [List.take_succ_cons, List.take_zero, List.drop_succ_cons, List.drop_zero]
                repeat
                  first
                  | (refine calm_value (v := ?_) (by decide) rfl (fun σ w1 hS => ?_) ?_
                     rotate_left
                     · obtain ⟨c1, c1'⟩ := el hS.rd HG1.out; obtain ⟨c2, c2'⟩ := el hS.rd HG2.out
                       first | (go_simp; rfl) | rfl
                     simp only [Act.put, List.setIfInBounds_toArray, List.set_cons_zero, List.set_cons_succ])
                  | (refine calm_skip (by decide) rfl ?_
                     simp only [Act.put, List.setIfInBounds_toArray, List.set_cons_zero, List.set_cons_succ])
                refine calm_nil ?_
                intro σ2 wd2 _ H2
                simp only [putNew, List.foldl_nil]
                clear HD
                go_wp2_with (first
                  | (refine wpList_store_elem rfl _ _ rfl (i := j' + 1) (by first | rfl | (rw [Nat.mul_one]; rfl)) H2 (ce u) rfl (by kernel_rfl) rfl (by omega) (e_one u) ?_; clear H2; intro w5 H; rw [E1.out] at H)
                  | (refine wpList_store_elem rfl _ _ rfl (i := j') (by first | rfl | (rw [Nat.mul_one]; rfl)) H (ce x) rfl (by kernel_rfl) rfl (by omega) (e_one x) ?_; clear H; intro w6 H; rw [E2.out] at H))
                go_roundw
                case rel => exact ⟨j', U3, u :: U2, hj1', by omega, by go_num, hU', hU3l, hgt2, H⟩
                case measure => simp [intOf]
              · have hxu2 : decide (key x < key u) = false := by simp [hxu]
                rw [hxu2]
                have hle : Hid (∀ v ∈ U3 ++ [u], key v ≤ key x) := Lib.hid fun v hv => by
                  have hs' : Srt key ((U3 ++ [u]) ++ U2) := by rw [← hU12.out]; exact hU.out
                  rcases List.mem_append.1 hv with hv | hv
                  · have := (hs'.left).across v hv u (by simp); omega
                  · simp at hv; subst hv; omega
                clear hxu hxu2 hcl
                go_wp2
                go_meet
                exact HFIN.out _ hle.out HD
            · have hja2 : j = a := by omega
              have hU10 : U1 = [] := by have := hU1.out; exact List.eq_nil_of_length_eq_zero (by omega)
              subst hja2
              clear hja
              go_upto_region 4 with (fail)
              refine wp_region_calm (fun w1 => Own w0 w1 (slc 129 2 (.slice (some ⟨g, 0, none⟩) N c) N (rows ce (p ++ U1 ++ x :: (U2 ++ S3 ++ q))) :: ps)) 16 (by kernel_rfl) (by kernel_rfl) H.drew ?_
              simp only [List.take_succ_cons, List.take_zero, List.drop_succ_cons, List.drop_zero]
              repeat
                first
                | (refine calm_value (v := ?_) (by decide) rfl (fun σ w1 hS => ?_) ?_
                   rotate_left
                   · skip
                     first | (go_simp; rfl) | rfl
                   simp only [Act.put, List.setIfInBounds_toArray, List.set_cons_zero, List.set_cons_succ])
                | (refine calm_skip (by decide) rfl ?_
                   simp only [Act.put, List.setIfInBounds_toArray, List.set_cons_zero, List.set_cons_succ])
              refine calm_nil ?_
              intro wd HD
              clear H
              go_wp2
              go_meet
              exact HFIN.out _ (by rw [hU10]; simp) HD
        case rest =>
          clear H
          obtain ⟨U', hs', he', H⟩ := hcut
          go_wp2
          go_roundw
          case rel => exact ⟨i + 1, S1 ++ [x], S3, U', by omega, by omega, by go_num, Lib.hid (by rw [hs.out]; simp), Lib.hid (by rw [List.length_append, ← Nat.add_assoc, hl.out]; rfl), hs', he', H⟩
          case measure => simp [intOf]; omega
      · have hib2 : i = b := by omega
        subst hib2
        have hS20 : S2 = [] := by
          have h1 := HB.out; have h2 := hl.out
          rw [hs.out, List.length_append] at h1
          exact List.eq_nil_of_length_eq_zero (by omega)
        have hs1' : s = S1 := by rw [hs.out, hS20, List.append_nil]
        rw [hS20, List.append_nil] at H
        have HE := Lib.hid hs1'
        clear hS20 hs1'
        go_wp2
        go_end0
        exact ⟨_, rfl, U, hU.out, by rw [HE.out]; exact hSU.out, H⟩
end
end SC
end Go.Proofs.Ytpbodonmiepilaa
/- The stable sort of slices of coins: the walk of symMerge, where one part is of one. (Written by tools/srt.py.) -/
namespace Go.Proofs.Ytpbodonmiepilaa
open Go.RowKit
namespace SC
section
variable {w0 w : World} {ps : List Piece} {ok : Coin → Prop} {key : Coin → Int} {B : Nat}
set_option maxRecDepth 100000 in
set_option maxHeartbeats 6400000 in
theorem symL_any {g c N : Nat} {p y q : List Coin} {u : Coin} {a m b : Nat} (hcmp : Cmps w0 ps B ok key) (hoku : ok u) (hoky : ∀ v ∈ y, ok v) (hy : Srt key y) (ha : a = p.length) (hm : m = a + 1) (hb : b = m + y.length) (hN : N = (p ++ [u] ++ y ++ q).length) (hNb : N ≤ 1000000)
    (H : Own w0 w (slc 129 2 (.slice (some ⟨g, 0, none⟩) N c) N (rows ce (p ++ [u] ++ y ++ q)) :: ps)) :
    Calls Try.prog 107 #[.slice (some ⟨g, 0, none⟩) N c, .int .i64 a, .int .i64 m, .int .i64 b, cf B] w (Ret fun _ w' => ∃ z, Mrg key [u] y z ∧ Own w0 w' (slc 129 2 (.slice (some ⟨g, 0, none⟩) N c) N (rows ce (p ++ z ++ q)) :: ps)) := by
  have hbN : b ≤ N := by rw [hN]; simp only [List.length_append, List.length_singleton]; omega
  have hNc : N ≤ c := by obtain ⟨_, _, e, h1, _⟩ := H.rd.shape; cases e; exact h1
  have hc2 : c ≤ 9223372036854775807 := by obtain ⟨_, _, e, _, h1⟩ := H.rd.shape; cases e; exact h1
  have hgu : (p ++ [u] ++ y ++ q)[a]? = some u := by
    have : p ++ [u] ++ y ++ q = p ++ u :: (y ++ q) := by simp
    rw [this]; exact get_mid _ _ _ ha
  have hgy : ∀ t v, y[t]? = some v → (p ++ [u] ++ y ++ q)[m + t]? = some v := by
    intro t v hv
    have : p ++ [u] ++ y ++ q = (p ++ [u]) ++ (y ++ q) := by simp
    rw [this, List.getElem?_append_right (by simp only [List.length_append, List.length_singleton]; omega), List.getElem?_append_left (by have := (List.getElem?_eq_some_iff.1 hv).1; simp only [List.length_append, List.length_singleton]; omega)]
    simp only [List.length_append, List.length_singleton]
    rw [show m + t - (p.length + 1) = t by omega]
    exact hv
  have HGU := Lib.hid hgu
  have HGY := Lib.hid hgy
  have HP := Lib.hid ha
  have HB := Lib.hid hb
  have HN := Lib.hid hN
  have HC := Lib.hid hcmp
  have HOK := Lib.hid hoky
  have HS := Lib.hid hy
  obtain ⟨L, hL⟩ : ∃ L, Hid (p ++ [u] ++ y ++ q = L) := ⟨_, Lib.hid rfl⟩
  rw [hL.out] at H HGU HGY
  have hmb : m ≤ b := by omega
  have hma : ((m : Int) - (a : Int)) = 1 := by omega
  have ham : a < m := by omega
  have haN : (a : Int) < (N : Int) := by omega
  have HM := Lib.hid hm
  clear ha hb hN hcmp hoky hy hgu hgy hm
  go_enter Try.func107, Try.ntmps107
  go_wp2_with fail
  go_loopw [10, 11] (fun s10 s11 wx => ∃ (i j : Nat), s10 = .int .i64 i ∧ s11 = .int .i64 j ∧ m ≤ i ∧ i ≤ j ∧ j ≤ b ∧ Hid (∀ (t : Nat) (v : Coin), m + t < i → y[t]? = some v → key v < key u) ∧ Hid (∀ (t : Nat) (v : Coin), j ≤ m + t → y[t]? = some v → key u ≤ key v) ∧ Own w0 wx (slc 129 2 (.slice (some ⟨g, 0, none⟩) N c) N (rows ce L) :: ps)) (fun s10 s11 _ => (intOf s11).toNat - (intOf s10).toNat)
  case atStart => exact ⟨m, b, rfl, rfl, by omega, by omega, by omega, Lib.hid (fun t v h => by omega), Lib.hid (fun t v h hv => by have := (List.getElem?_eq_some_iff.1 hv).1; have := HB.out; omega), H⟩
  case round =>
    clear H
    obtain ⟨i, j, rfl, rfl, hmi, hij, hjb, hlo, hhi, H⟩ := hrel
    by_cases hlt : i < j
    · obtain ⟨h, hh⟩ : ∃ h, Hid ((i + j) / 2 = h) := ⟨_, rfl⟩
      have hih : i ≤ h := by rw [← hh.out]; omega
      have hhj : h < j := by rw [← hh.out]; omega
      have hsI : (((i : Int) + (j : Int)) / 2) = (h : Int) := by have := hh.out; omega
      have hsU : IntKind.u64.wrap ((i : Int) + (j : Int)) = (i : Int) + (j : Int) := by simp [IntKind.wrap, IntKind.bits, IntKind.signed]; omega
      obtain ⟨t, ht⟩ : ∃ t, h = m + t := ⟨h - m, by omega⟩
      obtain ⟨v, hv⟩ := get_of_lt (l := y) (k := t) (by have := HB.out; omega)
      have hg := HGY.out t v hv
      rw [← ht] at hg
      have HG := Lib.hid hg
      have hokv : ok v := HOK.out v (List.mem_of_getElem? hv)
      have hcall := fun (wz : World) (h : Own w0 wz (slc 129 2 (.slice (some ⟨g, 0, none⟩) N c) N (rows ce L) :: ps)) => HC.out wz _ h v u hokv hoku
      have hcl := cmpI_lt (key v) (key u)
      obtain ⟨cv, hcv⟩ : ∃ cv, Hid (cmpI (key v) (key u) = cv) := ⟨_, rfl⟩
      simp only [hcv.out] at hcall hcl
      have HCALL := Lib.hid hcall
      have hhN : (h : Int) < (N : Int) := by omega
      have hlo2 : key v < key u → Hid (∀ (t' : Nat) (v' : Coin), m + t' < h + 1 → y[t']? = some v' → key v' < key u) := fun hk => Lib.hid fun t' v' ht' hv' => by
        by_cases e : t' = t
        · subst e; rw [hv] at hv'; cases hv'; exact hk
        · have h1 := List.pairwise_iff_getElem.1 HS.out t' t (List.getElem?_eq_some_iff.1 hv').1 (List.getElem?_eq_some_iff.1 hv).1 (by omega)
          rw [(List.getElem?_eq_some_iff.1 hv').2, (List.getElem?_eq_some_iff.1 hv).2] at h1
          omega
      have hhi2 : ¬ key v < key u → Hid (∀ (t' : Nat) (v' : Coin), h ≤ m + t' → y[t']? = some v' → key u ≤ key v') := fun hk => Lib.hid fun t' v' ht' hv' => by
        by_cases e : t' = t
        · subst e; rw [hv] at hv'; cases hv'; omega
        · have h1 := List.pairwise_iff_getElem.1 HS.out t t' (List.getElem?_eq_some_iff.1 hv).1 (List.getElem?_eq_some_iff.1 hv').1 (by omega)
          rw [(List.getElem?_eq_some_iff.1 hv').2, (List.getElem?_eq_some_iff.1 hv).2] at h1
          omega
      have HLO2 := Lib.hid hlo2
      have HHI2 := Lib.hid hhi2
      clear hlo2 hhi2 hg hv ht hcall
      go_upto_region 5 with (fail)
      refine wp_region_calm (fun w1 => Own w0 w1 (slc 129 2 (.slice (some ⟨g, 0, none⟩) N c) N (rows ce L) :: ps)) 10 (by kernel_rfl) (by kernel_rfl) H.drew ?_
      simp only [List.take_succ_cons, List.take_zero, List.drop_succ_cons, List.drop_zero]
      repeat
        first
        | (refine calm_value (v := ?_) (by decide) rfl (fun σ w1 hS => ?_) ?_
           rotate_left
           · obtain ⟨c1, c1'⟩ := el hS.rd HG.out; obtain ⟨c2, c2'⟩ := el hS.rd HGU.out
             first | (go_simp; rfl) | rfl
           simp only [Act.put, List.setIfInBounds_toArray, List.set_cons_zero, List.set_cons_succ])
        | (refine calm_skip (by decide) rfl ?_
           simp only [Act.put, List.setIfInBounds_toArray, List.set_cons_zero, List.set_cons_succ])
      refine calm_call (v := .int .i64 cv) (by decide) rfl (fun w1 => (by go_simp; first | exact ⟨rfl, rfl⟩ | rfl)) (fun σ w1 hS => ?_) ?_
      · refine (HCALL.out w1 hS).mono ?_
        rintro e w2 ⟨_, rfl, rfl, h2⟩
        exact ⟨rfl, hS.join h2⟩
      simp only [Act.put, List.setIfInBounds_toArray, List.set_cons_zero, List.set_cons_succ]
      refine calm_nil ?_
      intro wd HD
      clear H
      by_cases hk : key v < key u
      · have hk2 : decide (cv < 0) = true := by rw [hcl]; simp [hk]
        have hn := HLO2.out hk
        clear hk hcl HHI2
        go_wp2
        go_roundw
        case rel => exact ⟨h + 1, j, by go_num, rfl, by omega, by omega, by omega, hn, hhi, HD⟩
        case measure => simp [intOf]; omega
      · have hk2 : decide (cv < 0) = false := by rw [hcl]; simp [hk]
        have hn := HHI2.out hk
        clear hk hcl HLO2
        go_wp2
        go_roundw
        case rel => exact ⟨i, h, rfl, by go_num, by omega, by omega, by omega, hlo, hn, HD⟩
        case measure => simp [intOf]; omega
    · have hij2 : i = j := by omega
      subst hij2
      obtain ⟨y1, y2, hys, hy1⟩ := split_at y (i - m) (by have := HB.out; omega)
      have hlt1 : ∀ v ∈ y1, key v < key u := fun v hv => by
        obtain ⟨t, ht, rfl⟩ := List.getElem_of_mem hv
        refine hlo.out t _ (by omega) ?_
        rw [hys, List.getElem?_append_left ht, List.getElem?_eq_getElem ht]
      have hge2 : ∀ v ∈ y2, key u ≤ key v := fun v hv => by
        obtain ⟨t, ht, rfl⟩ := List.getElem_of_mem hv
        refine hhi.out (y1.length + t) _ (by omega) ?_
        rw [hys, List.getElem?_append_right (by omega), Nat.add_sub_cancel_left, List.getElem?_eq_getElem ht]
      have hmrg : Mrg key [u] y (y1 ++ u :: y2) := by
        have := Mrg.one_left (key := key) (x := u) (y1 := y1) (y2 := y2) (by rw [← hys]; exact HS.out) hlt1 hge2
        rwa [← hys] at this
      have HMRG := Lib.hid hmrg
      have HY1 := Lib.hid hy1
      have hLe : Hid (L = p ++ u :: (y1 ++ y2 ++ q)) := Lib.hid (by rw [← hL.out, hys]; simp)
      have hiw : IntKind.i64.wrap ((i : Int) - 1) = (i : Int) - 1 := IntWalk.i64_in _ ⟨by omega, by omega⟩
      have hHL : Hid (L.length = N) := Lib.hid (by rw [← hL.out, ← HN.out])
      clear hlo hhi hys hlt1 hge2 hmrg hy1 hlt
      rw [hLe.out] at H
      go_wp2_with fail
      go_loopw [13] (fun s13 wx => ∃ (k : Nat) (Y1 Y2 : List Coin), s13 = .int .i64 k ∧ a ≤ k ∧ k + 1 ≤ i ∧ Hid (y1 = Y1 ++ Y2) ∧ Hid (a + Y1.length = k) ∧ Own w0 wx (slc 129 2 (.slice (some ⟨g, 0, none⟩) N c) N (rows ce (p ++ Y1 ++ u :: (Y2 ++ (y2 ++ q)))) :: ps)) (fun s13 _ => i - (intOf s13).toNat)
      case atStart => exact ⟨a, [], y1, rfl, by omega, by omega, Lib.hid rfl, Lib.hid rfl, by simpa using H⟩
      case round =>
        clear H
        obtain ⟨k, Y1, Y2, rfl, hk1, hk2, hy1, hYl, H⟩ := hrel
        by_cases hki : k + 1 < i
        · obtain ⟨v, Y3, hY2⟩ : ∃ v Y3, Y2 = v :: Y3 := by
            cases Y2 with
            | nil => exfalso; have h1 := HY1.out; have h2 := hYl.out; rw [hy1.out] at h1; simp at h1; have := HM.out; omega
            | cons v Y3 => exact ⟨v, Y3, rfl⟩
          subst hY2
          have el1 : p ++ Y1 ++ u :: (v :: Y3 ++ (y2 ++ q)) = (p ++ Y1) ++ u :: ([] ++ v :: (Y3 ++ (y2 ++ q))) := by simp
          rw [el1] at H
          have hkl : k = (p ++ Y1).length := by rw [List.length_append, ← HP.out]; exact hYl.out.symm
          have hLn : ((p ++ Y1) ++ u :: ([] ++ v :: (Y3 ++ (y2 ++ q)))).length = N := by
            rw [← hHL.out, hLe.out, hy1.out]
            simp only [List.length_append, List.length_cons, List.length_nil]
            omega
          have hg1 : ((p ++ Y1) ++ u :: ([] ++ v :: (Y3 ++ (y2 ++ q))))[k]? = some u := get_mid _ _ _ hkl
          have hg2 : ((p ++ Y1) ++ u :: ([] ++ v :: (Y3 ++ (y2 ++ q))))[k + 1]? = some v := by
            have : (p ++ Y1) ++ u :: ([] ++ v :: (Y3 ++ (y2 ++ q))) = ((p ++ Y1) ++ [u]) ++ v :: (Y3 ++ (y2 ++ q)) := by simp
            rw [this]
            exact get_mid _ _ _ (by rw [List.length_append, List.length_singleton, ← hkl])
          have hsw := set_swap (p ++ Y1) [] (Y3 ++ (y2 ++ q)) u v (i := k) (j := k + 1) hkl (by simp only [List.length_nil]; omega)
          obtain ⟨M, hM⟩ : ∃ M, Hid ((p ++ Y1) ++ u :: ([] ++ v :: (Y3 ++ (y2 ++ q))) = M) := ⟨_, Lib.hid rfl⟩
          rw [hM.out] at H hg1 hg2 hsw hLn
          have HG1 := Lib.hid hg1
          have HG2 := Lib.hid hg2
          have e1 : (rows ce M).take (k * 2) ++ ce v ++ (rows ce M).drop (k * 2 + 2) = rows ce (M.set k v) := set_rows (by rw [hLn]; omega) v
          have e2 : (rows ce (M.set k v)).take ((k + 1) * 2) ++ ce u ++ (rows ce (M.set k v)).drop ((k + 1) * 2 + 2) = rows ce (p ++ (Y1 ++ [v]) ++ u :: (Y3 ++ (y2 ++ q))) := by
            rw [set_rows (by rw [List.length_set, hLn]; omega) u, hsw]
            simp
          have E1 := Lib.hid e1
          have E2 := Lib.hid e2
          have hkiI : (k : Int) < (i : Int) - 1 := by omega
          have hkN : (k : Int) < (N : Int) := by omega
          have hkN1 : (k : Int) + 1 < (N : Int) := by omega
          have hkT : ((k : Int) + 1).toNat = k + 1 := by omega
          have hkw : IntKind.i64.wrap ((k : Int) + 1) = (k : Int) + 1 := IntWalk.i64_in _ ⟨by omega, by omega⟩
          have hY' : Hid (y1 = (Y1 ++ [v]) ++ Y3) := Lib.hid (by rw [hy1.out]; simp)
          have hYl' : Hid (a + (Y1 ++ [v]).length = k + 1) := Lib.hid (by rw [List.length_append, List.length_singleton]; have := hYl.out; omega)
          clear hg1 hg2 hsw hLn e1 e2 el1 hkl hM
          go_upto_region 11 with (fail)
          refine wp_region_pres (fun _ w1 => Own w0 w1 (slc 129 2 (.slice (some ⟨g, 0, none⟩) N c) N (rows ce M) :: ps)) 14 [] [2, 3, 4] (by kernel_rfl) (by kernel_rfl) (by kernel_rfl) (by kernel_rfl) (fun _ _ d _ _ h => by cases d <;> exact h) ⟨_, _, rfl, fun w => (by first | rfl | (go_simp; rfl)), _, _, rfl, fun w => (by first | rfl | (go_simp; rfl)), _, _, rfl, fun w => (by first | rfl | (go_simp; rfl)), rfl⟩ H.drew ?_
          simp only [List.take_succ_cons, List.take_zero, List.drop_succ_cons, List.drop_zero]
          repeat
            first
            | (refine calm_value (v := ?_) (by decide) rfl (fun σ w1 hS => ?_) ?_
               rotate_left
               · obtain ⟨c1, c1'⟩ := el hS.rd HG1.out; obtain ⟨c2, c2'⟩ := el hS.rd HG2.out
                 first | (go_simp; rfl) | rfl
               simp only [Act.put, List.setIfInBounds_toArray, List.set_cons_zero, List.set_cons_succ])
            | (refine calm_skip (by decide) rfl ?_
               simp only [Act.put, List.setIfInBounds_toArray, List.set_cons_zero, List.set_cons_succ])
          refine calm_nil ?_
          intro σ2 wd2 _ H2
          simp only [putNew, List.foldl_nil]
          clear H
          go_wp2_with (first
            | (refine wpList_store_elem rfl _ _ rfl (i := k) (by first | rfl | (rw [Nat.mul_one]; rfl)) H2 (ce v) rfl (by kernel_rfl) rfl (by omega) (e_one v) ?_; clear H2; intro w5 H; rw [E1.out] at H)
            | (refine wpList_store_elem rfl _ _ rfl (i := k + 1) (by first | rfl | (rw [Nat.mul_one]; rfl)) H (ce u) rfl (by kernel_rfl) rfl (by omega) (e_one u) ?_; clear H; intro w6 H; rw [E2.out] at H))
          go_roundw
          case rel => exact ⟨k + 1, Y1 ++ [v], Y3, by go_num, by omega, by omega, hY', hYl', H⟩
          case measure => simp [intOf]; omega
        · have hY20 : Y2 = [] := by
            have h1 := HY1.out; have h2 := hYl.out
            rw [hy1.out, List.length_append] at h1
            have := HM.out
            exact List.eq_nil_of_length_eq_zero (by omega)
          have hnk : ¬ ((k : Int) < (i : Int) - 1) := by omega
          have e1 : Hid (y1 = Y1) := Lib.hid (by rw [hy1.out, hY20, List.append_nil])
          have el2 : p ++ Y1 ++ u :: (Y2 ++ (y2 ++ q)) = p ++ (y1 ++ u :: y2) ++ q := by rw [hY20, e1.out]; simp
          rw [el2] at H
          clear el2 hY20 hki
          go_wp2
          go_end0
          exact ⟨_, rfl, _, HMRG.out, by simpa using H⟩
end
end SC
end Go.Proofs.Ytpbodonmiepilaa
/- The stable sort of slices of coins: the walk of symMerge, where the second part is of one. (Written by tools/srt.py.) -/
namespace Go.Proofs.Ytpbodonmiepilaa
open Go.RowKit
namespace SC
section
variable {w0 w : World} {ps : List Piece} {ok : Coin → Prop} {key : Coin → Int} {B : Nat}
set_option maxRecDepth 100000 in
set_option maxHeartbeats 6400000 in
theorem symR_any {g c N : Nat} {p x q : List Coin} {u : Coin} {a m b : Nat} (hcmp : Cmps w0 ps B ok key) (hoku : ok u) (hokx : ∀ v ∈ x, ok v) (hx : Srt key x) (hx2 : 2 ≤ x.length) (ha : a = p.length) (hm : m = a + x.length) (hb : b = m + 1) (hN : N = (p ++ x ++ [u] ++ q).length) (hNb : N ≤ 1000000)
    (H : Own w0 w (slc 129 2 (.slice (some ⟨g, 0, none⟩) N c) N (rows ce (p ++ x ++ [u] ++ q)) :: ps)) :
    Calls Try.prog 107 #[.slice (some ⟨g, 0, none⟩) N c, .int .i64 a, .int .i64 m, .int .i64 b, cf B] w (Ret fun _ w' => ∃ z, Mrg key x [u] z ∧ Own w0 w' (slc 129 2 (.slice (some ⟨g, 0, none⟩) N c) N (rows ce (p ++ z ++ q)) :: ps)) := by
  have hbN : b ≤ N := by rw [hN]; simp only [List.length_append, List.length_singleton]; omega
  have hNc : N ≤ c := by obtain ⟨_, _, e, h1, _⟩ := H.rd.shape; cases e; exact h1
  have hc2 : c ≤ 9223372036854775807 := by obtain ⟨_, _, e, _, h1⟩ := H.rd.shape; cases e; exact h1
  have hgu : (p ++ x ++ [u] ++ q)[m]? = some u := by
    have : p ++ x ++ [u] ++ q = (p ++ x) ++ u :: q := by simp
    rw [this]; exact get_mid _ _ _ (by rw [List.length_append]; omega)
  have hgx : ∀ (t : Nat) v, x[t]? = some v → (p ++ x ++ [u] ++ q)[a + t]? = some v := by
    intro t v hv
    have : p ++ x ++ [u] ++ q = p ++ (x ++ (u :: q)) := by simp
    rw [this, List.getElem?_append_right (by omega), List.getElem?_append_left (by have := (List.getElem?_eq_some_iff.1 hv).1; omega)]
    rw [show a + t - p.length = t by omega]
    exact hv
  have HGU := Lib.hid hgu
  have HGX := Lib.hid hgx
  have HP := Lib.hid ha
  have HM := Lib.hid hm
  have HN := Lib.hid hN
  have HC := Lib.hid hcmp
  have HOK := Lib.hid hokx
  have HS := Lib.hid hx
  obtain ⟨L, hL⟩ : ∃ L, Hid (p ++ x ++ [u] ++ q = L) := ⟨_, Lib.hid rfl⟩
  rw [hL.out] at H HGU HGX
  have hmN : m < N := by omega
  have ham : a + 2 ≤ m := by omega
  have hma : (((m : Int) - (a : Int)) == 1) = false := by simp; omega
  have hbm : ((b : Int) - (m : Int)) = 1 := by omega
  have hbm2 : m ≤ b := by omega
  clear ha hb hN hcmp hokx hx hgu hgx hm hx2
  go_enter Try.func107, Try.ntmps107
  go_wp2_with fail
  go_loopw [14, 15] (fun s10 s11 wx => ∃ (i j : Nat), s10 = .int .i64 i ∧ s11 = .int .i64 j ∧ a ≤ i ∧ i ≤ j ∧ j ≤ m ∧ Hid (∀ (t : Nat) (v : Coin), a + t < i → x[t]? = some v → key v ≤ key u) ∧ Hid (∀ (t : Nat) (v : Coin), j ≤ a + t → x[t]? = some v → key u < key v) ∧ Own w0 wx (slc 129 2 (.slice (some ⟨g, 0, none⟩) N c) N (rows ce L) :: ps)) (fun s10 s11 _ => (intOf s11).toNat - (intOf s10).toNat)
  case atStart => exact ⟨a, m, rfl, rfl, by omega, by omega, by omega, Lib.hid (fun t v h => by omega), Lib.hid (fun t v h hv => by have := (List.getElem?_eq_some_iff.1 hv).1; have := HM.out; omega), H⟩
  case round =>
    clear H
    obtain ⟨i, j, rfl, rfl, hmi, hij, hjb, hlo, hhi, H⟩ := hrel
    by_cases hlt : i < j
    · obtain ⟨h, hh⟩ : ∃ h, Hid ((i + j) / 2 = h) := ⟨_, rfl⟩
      have hih : i ≤ h := by rw [← hh.out]; omega
      have hhj : h < j := by rw [← hh.out]; omega
      have hsI : (((i : Int) + (j : Int)) / 2) = (h : Int) := by have := hh.out; omega
      have hsU : IntKind.u64.wrap ((i : Int) + (j : Int)) = (i : Int) + (j : Int) := by simp [IntKind.wrap, IntKind.bits, IntKind.signed]; omega
      obtain ⟨t, ht⟩ : ∃ t, h = a + t := ⟨h - a, by omega⟩
      obtain ⟨v, hv⟩ := get_of_lt (l := x) (k := t) (by have := HM.out; omega)
      have hg := HGX.out t v hv
      rw [← ht] at hg
      have HG := Lib.hid hg
      have hokv : ok v := HOK.out v (List.mem_of_getElem? hv)
      have hcall := fun (wz : World) (h : Own w0 wz (slc 129 2 (.slice (some ⟨g, 0, none⟩) N c) N (rows ce L) :: ps)) => HC.out wz _ h u v hoku hokv
      have hcl := cmpI_lt (key u) (key v)
      obtain ⟨cv, hcv⟩ : ∃ cv, Hid (cmpI (key u) (key v) = cv) := ⟨_, rfl⟩
      simp only [hcv.out] at hcall hcl
      have HCALL := Lib.hid hcall
      have hhN : (h : Int) < (N : Int) := by omega
      have hlo2 : ¬ key u < key v → Hid (∀ (t' : Nat) (v' : Coin), a + t' < h + 1 → x[t']? = some v' → key v' ≤ key u) := fun hk => Lib.hid fun t' v' ht' hv' => by
        by_cases e : t' = t
        · subst e; rw [hv] at hv'; cases hv'; omega
        · have h1 := List.pairwise_iff_getElem.1 HS.out t' t (List.getElem?_eq_some_iff.1 hv').1 (List.getElem?_eq_some_iff.1 hv).1 (by omega)
          rw [(List.getElem?_eq_some_iff.1 hv').2, (List.getElem?_eq_some_iff.1 hv).2] at h1
          omega
      have hhi2 : key u < key v → Hid (∀ (t' : Nat) (v' : Coin), h ≤ a + t' → x[t']? = some v' → key u < key v') := fun hk => Lib.hid fun t' v' ht' hv' => by
        by_cases e : t' = t
        · subst e; rw [hv] at hv'; cases hv'; exact hk
        · have h1 := List.pairwise_iff_getElem.1 HS.out t t' (List.getElem?_eq_some_iff.1 hv).1 (List.getElem?_eq_some_iff.1 hv').1 (by omega)
          rw [(List.getElem?_eq_some_iff.1 hv').2, (List.getElem?_eq_some_iff.1 hv).2] at h1
          omega
      have HLO2 := Lib.hid hlo2
      have HHI2 := Lib.hid hhi2
      clear hlo2 hhi2 hg hv ht hcall
      go_upto_region 17 with (fail)
      refine wp_region_calm (fun w1 => Own w0 w1 (slc 129 2 (.slice (some ⟨g, 0, none⟩) N c) N (rows ce L) :: ps)) 10 (by kernel_rfl) (by kernel_rfl) H.drew ?_
      simp only [List.take_succ_cons, List.take_zero, List.drop_succ_cons, List.drop_zero]
      have hmNI : (m : Int) < (N : Int) := by omega
      repeat
        first
        | (refine calm_value (v := ?_) (by decide) rfl (fun σ w1 hS => ?_) ?_
           rotate_left
           · obtain ⟨c1, c1'⟩ := el hS.rd HG.out; obtain ⟨c2, c2'⟩ := el hS.rd HGU.out
             first | (go_simp; rfl) | rfl
           simp only [Act.put, List.setIfInBounds_toArray, List.set_cons_zero, List.set_cons_succ])
        | (refine calm_skip (by decide) rfl ?_
           simp only [Act.put, List.setIfInBounds_toArray, List.set_cons_zero, List.set_cons_succ])
      refine calm_call (v := .int .i64 cv) (by decide) rfl (fun w1 => (by go_simp; first | exact ⟨rfl, rfl⟩ | rfl)) (fun σ w1 hS => ?_) ?_
      · refine (HCALL.out w1 hS).mono ?_
        rintro e w2 ⟨_, rfl, rfl, h2⟩
        exact ⟨rfl, hS.join h2⟩
      simp only [Act.put, List.setIfInBounds_toArray, List.set_cons_zero, List.set_cons_succ]
      refine calm_nil ?_
      intro wd HD
      clear H
      by_cases hk : key u < key v
      · have hk2 : decide (cv < 0) = true := by rw [hcl]; simp [hk]
        have hn := HHI2.out hk
        clear hk hcl HLO2
        go_wp2
        go_roundw
        case rel => exact ⟨i, h, rfl, by go_num, by omega, by omega, by omega, hlo, hn, HD⟩
        case measure => simp [intOf]; omega
      · have hk2 : decide (cv < 0) = false := by rw [hcl]; simp [hk]
        have hn := HLO2.out hk
        clear hk hcl HHI2
        go_wp2
        go_roundw
        case rel => exact ⟨h + 1, j, by go_num, rfl, by omega, by omega, by omega, hn, hhi, HD⟩
        case measure => simp [intOf]; omega
    · have hij2 : i = j := by omega
      subst hij2
      obtain ⟨x1, x2, hxs, hx1⟩ := split_at x (i - a) (by have := HM.out; omega)
      have hle1 : ∀ v ∈ x1, key v ≤ key u := fun v hv => by
        obtain ⟨t, ht, rfl⟩ := List.getElem_of_mem hv
        refine hlo.out t _ (by omega) ?_
        rw [hxs, List.getElem?_append_left ht, List.getElem?_eq_getElem ht]
      have hgt2 : ∀ v ∈ x2, key u < key v := fun v hv => by
        obtain ⟨t, ht, rfl⟩ := List.getElem_of_mem hv
        refine hhi.out (x1.length + t) _ (by omega) ?_
        rw [hxs, List.getElem?_append_right (by omega), Nat.add_sub_cancel_left, List.getElem?_eq_getElem ht]
      have hmrg : Mrg key x [u] (x1 ++ u :: x2) := by
        have := Mrg.one_right (key := key) (y := u) (x1 := x1) (x2 := x2) (by rw [← hxs]; exact HS.out) hle1 hgt2
        rwa [← hxs] at this
      have HMRG := Lib.hid hmrg
      have HX1 := Lib.hid hx1
      have hx12 : Hid (i + x2.length = m) := Lib.hid (by have h1 := HM.out; rw [hxs, List.length_append] at h1; omega)
      have hLe : Hid (L = p ++ x1 ++ x2 ++ u :: q) := Lib.hid (by rw [← hL.out, hxs]; simp)
      have hHL : Hid (L.length = N) := Lib.hid (by rw [← hL.out, ← HN.out])
      clear hlo hhi hxs hle1 hgt2 hmrg hx1 hlt
      rw [hLe.out] at H
      go_wp2_with fail
      go_loopw [17] (fun s13 wx => ∃ (k : Nat) (X1 X2 : List Coin), s13 = .int .i64 k ∧ i ≤ k ∧ k ≤ m ∧ Hid (x2 = X1 ++ X2) ∧ Hid (i + X1.length = k) ∧ Own w0 wx (slc 129 2 (.slice (some ⟨g, 0, none⟩) N c) N (rows ce (p ++ x1 ++ X1 ++ u :: (X2 ++ q))) :: ps)) (fun s13 _ => (intOf s13).toNat)
      case atStart => exact ⟨m, x2, [], rfl, by omega, by omega, Lib.hid (by simp), hx12, by simpa using H⟩
      case round =>
        clear H
        obtain ⟨k, X1, X2, rfl, hk1, hk2, hx2, hXl, H⟩ := hrel
        by_cases hki : i < k
        · obtain ⟨X3, v, hX1⟩ := last_split X1 (by have := hXl.out; omega)
          subst hX1
          have el1 : p ++ x1 ++ (X3 ++ [v]) ++ u :: (X2 ++ q) = (p ++ x1 ++ X3) ++ v :: ([] ++ u :: (X2 ++ q)) := by simp
          rw [el1] at H
          obtain ⟨k', rfl⟩ : ∃ k', k = k' + 1 := ⟨k - 1, by omega⟩
          have hkl : k' = (p ++ x1 ++ X3).length := by
            have h1 := hXl.out; have h2 := HP.out; have h3 := HX1.out
            rw [List.length_append, List.length_singleton] at h1
            simp only [List.length_append]
            omega
          have hLn : ((p ++ x1 ++ X3) ++ v :: ([] ++ u :: (X2 ++ q))).length = N := by
            rw [← hHL.out, hLe.out, hx2.out]
            simp only [List.length_append, List.length_cons, List.length_nil]
            omega
          have hg1 : ((p ++ x1 ++ X3) ++ v :: ([] ++ u :: (X2 ++ q)))[k']? = some v := get_mid _ _ _ hkl
          have hg2 : ((p ++ x1 ++ X3) ++ v :: ([] ++ u :: (X2 ++ q)))[k' + 1]? = some u := by
            have : (p ++ x1 ++ X3) ++ v :: ([] ++ u :: (X2 ++ q)) = ((p ++ x1 ++ X3) ++ [v]) ++ u :: (X2 ++ q) := by simp
            rw [this]
            exact get_mid _ _ _ (by rw [List.length_append (bs := [v]), List.length_singleton, ← hkl])
          have hsw := set_swap (p ++ x1 ++ X3) [] (X2 ++ q) v u (i := k') (j := k' + 1) hkl (by simp only [List.length_nil]; omega)
          obtain ⟨M, hM⟩ : ∃ M, Hid ((p ++ x1 ++ X3) ++ v :: ([] ++ u :: (X2 ++ q)) = M) := ⟨_, Lib.hid rfl⟩
          rw [hM.out] at H hg1 hg2 hsw hLn
          have HG1 := Lib.hid hg1
          have HG2 := Lib.hid hg2
          have e1 : (rows ce M).take ((k' + 1) * 2) ++ ce v ++ (rows ce M).drop ((k' + 1) * 2 + 2) = rows ce (M.set (k' + 1) v) := set_rows (by rw [hLn]; omega) v
          have e2 : (rows ce (M.set (k' + 1) v)).take (k' * 2) ++ ce u ++ (rows ce (M.set (k' + 1) v)).drop (k' * 2 + 2) = rows ce (p ++ x1 ++ X3 ++ u :: ((v :: X2) ++ q)) := by
            rw [set_rows (by rw [List.length_set, hLn]; omega) u, List.set_comm _ _ (by omega), hsw]
            simp
          have E1 := Lib.hid e1
          have E2 := Lib.hid e2
          have hik : i ≤ k' := by omega
          have hikI : (i : Int) < (k' : Int) + 1 := by omega
          have hkN : (k' : Int) < (N : Int) := by omega
          have hkN1 : (k' : Int) + 1 < (N : Int) := by omega
          have hkT : ((k' : Int) + 1).toNat = k' + 1 := by omega
          have hkw : IntKind.i64.wrap (k' : Int) = (k' : Int) := IntWalk.i64_in _ ⟨by omega, by omega⟩
          have hX' : Hid (x2 = X3 ++ (v :: X2)) := Lib.hid (by rw [hx2.out]; simp)
          have hXl' : Hid (i + X3.length = k') := Lib.hid (by have := hXl.out; rw [List.length_append, List.length_singleton] at this; omega)
          clear hg1 hg2 hsw hLn e1 e2 el1 hkl hM hki
          go_upto_region 23 with (fail)
          refine wp_region_pres (fun _ w1 => Own w0 w1 (slc 129 2 (.slice (some ⟨g, 0, none⟩) N c) N (rows ce M) :: ps)) 14 [] [2, 3, 4] (by kernel_rfl) (by kernel_rfl) (by kernel_rfl) (by kernel_rfl) (fun _ _ d _ _ h => by cases d <;> exact h) ⟨_, _, rfl, fun w => (by first | rfl | (go_simp; rfl)), _, _, rfl, fun w => (by first | rfl | (go_simp; rfl)), _, _, rfl, fun w => (by first | rfl | (go_simp; rfl)), rfl⟩ H.drew ?_
          simp only [List.take_succ_cons, List.take_zero, List.drop_succ_cons, List.drop_zero]
          repeat
            first
            | (refine calm_value (v := ?_) (by decide) rfl (fun σ w1 hS => ?_) ?_
               rotate_left
               · obtain ⟨c1, c1'⟩ := el hS.rd HG1.out; obtain ⟨c2, c2'⟩ := el hS.rd HG2.out
                 first | (go_simp; rfl) | rfl
               simp only [Act.put, List.setIfInBounds_toArray, List.set_cons_zero, List.set_cons_succ])
            | (refine calm_skip (by decide) rfl ?_
               simp only [Act.put, List.setIfInBounds_toArray, List.set_cons_zero, List.set_cons_succ])
          refine calm_nil ?_
          intro σ2 wd2 _ H2
          simp only [putNew, List.foldl_nil]
          clear H
          go_wp2_with (first
            | (refine wpList_store_elem rfl _ _ rfl (i := k' + 1) (by first | rfl | (rw [Nat.mul_one]; rfl)) H2 (ce v) rfl (by kernel_rfl) rfl (by omega) (e_one v) ?_; clear H2; intro w5 H; rw [E1.out] at H)
            | (refine wpList_store_elem rfl _ _ rfl (i := k') (by first | rfl | (rw [Nat.mul_one]; rfl)) H (ce u) rfl (by kernel_rfl) rfl (by omega) (e_one u) ?_; clear H; intro w6 H; rw [E2.out] at H))
          go_roundw
          case rel => exact ⟨k', X3, v :: X2, by go_num, by omega, by omega, hX', hXl', H⟩
          case measure => simp [intOf]
        · have hik2 : k = i := by omega
          subst hik2
          have hX10 : X1 = [] := by have := hXl.out; exact List.eq_nil_of_length_eq_zero (by omega)
          have e1 : Hid (x2 = X2) := Lib.hid (by rw [hx2.out, hX10, List.nil_append])
          have el2 : p ++ x1 ++ X1 ++ u :: (X2 ++ q) = p ++ (x1 ++ u :: x2) ++ q := by rw [hX10, e1.out]; simp
          rw [el2] at H
          clear el2 hX10 hki
          go_wp2
          go_end0
          exact ⟨_, rfl, _, HMRG.out, by simpa using H⟩
end
end SC
end Go.Proofs.Ytpbodonmiepilaa
/- The stable sort of slices of coins: the walk of symMerge: what comes behind the search. (Written by tools/srt.py.) -/
namespace Go.Proofs.Ytpbodonmiepilaa
open Go.RowKit
namespace SC
noncomputable def symTail (r : Nat) : Code := ((Try.f107.body.bind (fromR r)).getD .skip)
/-- What symMerge does with two parts of f elements at most. -/
def SymAt (w0 : World) (ps : List Piece) (ok : Coin → Prop) (key : Coin → Int) (B g c N f : Nat) : Prop :=
  ∀ (w : World) (p x y q : List Coin) (a m b : Nat), x.length + y.length ≤ f → (∀ v ∈ x, ok v) → (∀ v ∈ y, ok v) → Srt key x → Srt key y → a = p.length → m = a + x.length → b = m + y.length → 0 < x.length → 0 < y.length → N = (p ++ x ++ y ++ q).length →
    Own w0 w (slc 129 2 (.slice (some ⟨g, 0, none⟩) N c) N (rows ce (p ++ x ++ y ++ q)) :: ps) →
    Calls Try.prog 107 #[.slice (some ⟨g, 0, none⟩) N c, .int .i64 a, .int .i64 m, .int .i64 b, cf B] w (Ret fun _ w' => ∃ z, Mrg key x y z ∧ Own w0 w' (slc 129 2 (.slice (some ⟨g, 0, none⟩) N c) N (rows ce (p ++ z ++ q)) :: ps))
section
variable {w0 : World} {ps : List Piece} {ok : Coin → Prop} {key : Coin → Int} {B : Nat}
set_option maxRecDepth 1000000 in
set_option maxHeartbeats 12800000 in
theorem tail3 {g c N f : Nat} {p q x y X1 X2 Y1 Y2 : List Coin} {a m b s en mid : Nat} {M1 : List Coin} (wr : World) (hNb : N ≤ 1000000) (IH : Hid (SymAt w0 ps ok key B g c N f)) (HFINAL : Hid (∀ z1 z2, Mrg key X1 Y1 z1 → Mrg key X2 Y2 z2 → Mrg key x y (z1 ++ z2)))
    (HOX1 : Hid (∀ v ∈ X1, ok v)) (HOX2 : Hid (∀ v ∈ X2, ok v)) (HOY1 : Hid (∀ v ∈ Y1, ok v)) (HOY2 : Hid (∀ v ∈ Y2, ok v)) (HSX1 : Hid (Srt key X1)) (HSX2 : Hid (Srt key X2)) (HSY1 : Hid (Srt key Y1)) (HSY2 : Hid (Srt key Y2))
    (HNL : Hid (N = (p ++ X1 ++ X2 ++ Y1 ++ Y2 ++ q).length)) (HMID2 : Hid (mid + mid ≤ a + b ∧ a + b ≤ mid + mid + 1)) (ham : a + 2 ≤ m) (hmb : m + 2 ≤ b) (hbN : b ≤ N)
    (hlens : Hid (a = p.length ∧ s = a + X1.length ∧ m = s + X2.length ∧ en = m + Y1.length ∧ b = en + Y2.length ∧ mid = s + Y1.length ∧ en = mid + X2.length ∧ X1.length + X2.length + (Y1.length + Y2.length) ≤ f + 1 ∧ 0 < X1.length + X2.length ∧ 0 < Y1.length + Y2.length))
    (hensN1 : en ≤ N) (hensN2 : s ≤ N) (hmN1 : mid ≤ N) (hM1 : Hid (Mrg key X1 Y1 M1)) (z5 z6 z7 z8 z9 z10 z11 z12 z13 z14 z15 z16 z17 z19 z21 z22 z23 z25 z26 z27 z28 z29 z30 z31 z32 z33 z34 z35 z36 z37 z38 z39 z40 z41 z42 z43 z44 z45 z46 z47 z48 z49 z50 z51 z52 z53 z54 z55 z56 z57 z58 z59 z60 z61 z62 z63 z64 z65 z66 z67 z68 z69 z70 z71 z72 z73 z74 z75 z76 z77 z78 z79 z80 z81 z82 z83 z84 z85 z86 z87 z88 z89 z90 z91 z92 z93 z94 z95 z96 z97 z98 z99 z100 z101 z102 z103 z104 z105 z106 z107 z108 z109 z110 z111 z112 z113 z114 z115 z116 z117 z118 z119 z120 z121 z122 z123 z124 z125 z126 z127 z128 z129 z130 z131 z132 z133 z134 z135 z136 z137 z138 z139 z140 z141 z142 z143 z144 z145 z146 z147 z148 z149 z150 z151 z152 z153 z154 z155 z156 z157 z158 z159 z160 z161 z162 z163 z164 z165 z166 z167 z168 z169 z170 z171 z172 z173 z174 z175 z176 z177 z178 z179 z180 z181 z182 z183 z184 z185 z186 z187 z188 z189 z190 z191 z192 z193 z194 z195 z196 z197 z198 z199 z200 z201 z202 z203 z204 z205 z206 z207 z208 z209 z210 z211 z212 z213 z214 z215 z216 z217 z218 z219 : Value)
    (H : Own w0 wr (slc 129 2 (.slice (some ⟨g, 0, none⟩) N c) N (rows ce (p ++ M1 ++ X2 ++ Y2 ++ q)) :: ps)) :
    Code.wp Try.prog (symTail 43) (bodyPost Try.prog Try.f107 (Ret fun _ w' => ∃ z, Mrg key x y z ∧ Own w0 w' (slc 129 2 (.slice (some ⟨g, 0, none⟩) N c) N (rows ce (p ++ z ++ q)) :: ps))) ⟨#[.slice (some ⟨g, 0, none⟩) N c, .int .i64 a, .int .i64 m, .int .i64 b, cf B, z5, z6, z7, z8, z9, z10, z11, z12, z13, z14, z15, z16, z17, .int .i64 mid, z19, .int .i64 s, z21, z22, z23, .int .i64 en, z25, z26, z27, z28, z29, z30, z31, z32, z33, z34, z35, z36, z37, z38, z39, z40, z41, z42, z43, z44, z45, z46, z47, z48, z49, z50, z51, z52, z53, z54, z55, z56, z57, z58, z59, z60, z61, z62, z63, z64, z65, z66, z67, z68, z69, z70, z71, z72, z73, z74, z75, z76, z77, z78, z79, z80, z81, z82, z83, z84, z85, z86, z87, z88, z89, z90, z91, z92, z93, z94, z95, z96, z97, z98, z99, z100, z101, z102, z103, z104, z105, z106, z107, z108, z109, z110, z111, z112, z113, z114, z115, z116, z117, z118, z119, z120, z121, z122, z123, z124, z125, z126, z127, z128, z129, z130, z131, z132, z133, z134, z135, z136, z137, z138, z139, z140, z141, z142, z143, z144, z145, z146, z147, z148, z149, z150, z151, z152, z153, z154, z155, z156, z157, z158, z159, z160, z161, z162, z163, z164, z165, z166, z167, z168, z169, z170, z171, z172, z173, z174, z175, z176, z177, z178, z179, z180, z181, z182, z183, z184, z185, z186, z187, z188, z189, z190, z191, z192, z193, z194, z195, z196, z197, z198, z199, z200, z201, z202, z203, z204, z205, z206, z207, z208, z209, z210, z211, z212, z213, z214, z215, z216, z217, z218, z219], []⟩ wr := by
  conv => arg 2; whnf
  dsimp only
  have hM1l : Hid (M1.length = X1.length + Y1.length) := Lib.hid (by rw [← hM1.out.2.length, List.length_append])
  have hNL3 : Hid (N = (p ++ M1 ++ X2 ++ Y2 ++ q).length) := Lib.hid (by rw [HNL.out]; have := hM1l.out; simp only [List.length_append]; omega)
  obtain ⟨t3, ht3⟩ : ∃ t, Hid ((decide (mid < en) && decide (en < b)) = t) := ⟨_, Lib.hid rfl⟩
  go_upto_region 43 with (fail)
  go_cut [213] (fun s1 wx => s1 = .bool t3 ∧ Own w0 wx (slc 129 2 (.slice (some ⟨g, 0, none⟩) N c) N (rows ce (p ++ M1 ++ X2 ++ Y2 ++ q)) :: ps))
  case first =>
    by_cases h1 : mid < en
    · by_cases h2 : en < b
      · have e : Hid (t3 = true) := Lib.hid (by rw [← ht3.out]; simp [h1, h2])
        go_wp2
        go_meet
        exact ⟨by rw [e.out], H⟩
      · have e : Hid (t3 = false) := Lib.hid (by rw [← ht3.out]; simp [h2])
        go_wp2
        go_meet
        exact ⟨by rw [e.out], H⟩
    · have e : Hid (t3 = false) := Lib.hid (by rw [← ht3.out]; simp [h1])
      go_wp2
      go_meet
      exact ⟨by rw [e.out], H⟩
  case rest =>
  clear H
  obtain ⟨rfl, H⟩ := hcut
  obtain ⟨l1, l2, l3, l4, l5, l6, l7, l8, l9, l10⟩ := hlens.out
  have hM1l' := hM1l.out
  have hm2 := HMID2.out
  cases t3 with
  | true =>
    have h := ht3.out
    simp only [Bool.and_eq_true, decide_eq_true_eq] at h
    have e1 : p ++ M1 ++ X2 ++ Y2 ++ q = (p ++ M1) ++ X2 ++ Y2 ++ q := by simp
    have hr := IH.out wc (p ++ M1) X2 Y2 q mid en b (by omega) HOX2.out HOY2.out HSX2.out HSY2.out (by rw [List.length_append]; omega) l7 l5 (by omega) (by omega) (by rw [← e1]; exact hNL3.out) (by rw [← e1]; exact H)
    have HR := Lib.hid hr
    clear hr l1 l2 l3 l4 l5 l6 l7 l8 l9 l10 h e1 hM1l' hm2
    go_wp2_with fail
    refine HR.out.mono ?_
    rintro e w3 ⟨_, rfl, z, hz, H3⟩
    clear HR H
    go_wp2
    go_end0
    exact ⟨_, rfl, M1 ++ z, HFINAL.out _ _ hM1.out hz, by simpa using H3⟩
  | false =>
    have h := ht3.out
    simp only [Bool.and_eq_false_iff, decide_eq_false_iff_not] at h
    have e1 : Hid (Mrg key X2 Y2 (X2 ++ Y2)) := Lib.hid (by
      rcases h with h | h
      · have : X2 = [] := List.eq_nil_of_length_eq_zero (by omega)
        rw [this]; exact Mrg.right HSY2.out
      · have : Y2 = [] := List.eq_nil_of_length_eq_zero (by omega)
        rw [this, List.append_nil]; exact Mrg.left HSX2.out)
    clear l1 l2 l3 l4 l5 l6 l7 l8 l9 l10 h hM1l' hm2
    go_wp2
    go_end0
    exact ⟨_, rfl, M1 ++ (X2 ++ Y2), HFINAL.out _ _ hM1.out e1.out, by simpa using H⟩

set_option maxRecDepth 1000000 in
set_option maxHeartbeats 12800000 in
theorem tail2 {g c N f : Nat} {p q x y X1 X2 Y1 Y2 : List Coin} {a m b s en mid : Nat} (wr : World) (hNb : N ≤ 1000000) (IH : Hid (SymAt w0 ps ok key B g c N f)) (HFINAL : Hid (∀ z1 z2, Mrg key X1 Y1 z1 → Mrg key X2 Y2 z2 → Mrg key x y (z1 ++ z2)))
    (HOX1 : Hid (∀ v ∈ X1, ok v)) (HOX2 : Hid (∀ v ∈ X2, ok v)) (HOY1 : Hid (∀ v ∈ Y1, ok v)) (HOY2 : Hid (∀ v ∈ Y2, ok v)) (HSX1 : Hid (Srt key X1)) (HSX2 : Hid (Srt key X2)) (HSY1 : Hid (Srt key Y1)) (HSY2 : Hid (Srt key Y2))
    (HNL : Hid (N = (p ++ X1 ++ X2 ++ Y1 ++ Y2 ++ q).length)) (HMID2 : Hid (mid + mid ≤ a + b ∧ a + b ≤ mid + mid + 1)) (ham : a + 2 ≤ m) (hmb : m + 2 ≤ b) (hbN : b ≤ N)
    (hlens : Hid (a = p.length ∧ s = a + X1.length ∧ m = s + X2.length ∧ en = m + Y1.length ∧ b = en + Y2.length ∧ mid = s + Y1.length ∧ en = mid + X2.length ∧ X1.length + X2.length + (Y1.length + Y2.length) ≤ f + 1 ∧ 0 < X1.length + X2.length ∧ 0 < Y1.length + Y2.length))
    (hensN1 : en ≤ N) (hensN2 : s ≤ N) (hmN1 : mid ≤ N) (z5 z6 z7 z8 z9 z10 z11 z12 z13 z14 z15 z16 z17 z19 z21 z22 z23 z25 z26 z27 z28 z29 z30 z31 z32 z33 z34 z35 z36 z37 z38 z39 z40 z41 z42 z43 z44 z45 z46 z47 z48 z49 z50 z51 z52 z53 z54 z55 z56 z57 z58 z59 z60 z61 z62 z63 z64 z65 z66 z67 z68 z69 z70 z71 z72 z73 z74 z75 z76 z77 z78 z79 z80 z81 z82 z83 z84 z85 z86 z87 z88 z89 z90 z91 z92 z93 z94 z95 z96 z97 z98 z99 z100 z101 z102 z103 z104 z105 z106 z107 z108 z109 z110 z111 z112 z113 z114 z115 z116 z117 z118 z119 z120 z121 z122 z123 z124 z125 z126 z127 z128 z129 z130 z131 z132 z133 z134 z135 z136 z137 z138 z139 z140 z141 z142 z143 z144 z145 z146 z147 z148 z149 z150 z151 z152 z153 z154 z155 z156 z157 z158 z159 z160 z161 z162 z163 z164 z165 z166 z167 z168 z169 z170 z171 z172 z173 z174 z175 z176 z177 z178 z179 z180 z181 z182 z183 z184 z185 z186 z187 z188 z189 z190 z191 z192 z193 z194 z195 z196 z197 z198 z199 z200 z201 z202 z203 z204 z205 z206 z207 z208 z209 z210 z211 z212 z213 z214 z215 z216 z217 z218 z219 : Value)
    (H : Own w0 wr (slc 129 2 (.slice (some ⟨g, 0, none⟩) N c) N (rows ce (p ++ X1 ++ Y1 ++ X2 ++ Y2 ++ q)) :: ps)) :
    Code.wp Try.prog (symTail 41) (bodyPost Try.prog Try.f107 (Ret fun _ w' => ∃ z, Mrg key x y z ∧ Own w0 w' (slc 129 2 (.slice (some ⟨g, 0, none⟩) N c) N (rows ce (p ++ z ++ q)) :: ps))) ⟨#[.slice (some ⟨g, 0, none⟩) N c, .int .i64 a, .int .i64 m, .int .i64 b, cf B, z5, z6, z7, z8, z9, z10, z11, z12, z13, z14, z15, z16, z17, .int .i64 mid, z19, .int .i64 s, z21, z22, z23, .int .i64 en, z25, z26, z27, z28, z29, z30, z31, z32, z33, z34, z35, z36, z37, z38, z39, z40, z41, z42, z43, z44, z45, z46, z47, z48, z49, z50, z51, z52, z53, z54, z55, z56, z57, z58, z59, z60, z61, z62, z63, z64, z65, z66, z67, z68, z69, z70, z71, z72, z73, z74, z75, z76, z77, z78, z79, z80, z81, z82, z83, z84, z85, z86, z87, z88, z89, z90, z91, z92, z93, z94, z95, z96, z97, z98, z99, z100, z101, z102, z103, z104, z105, z106, z107, z108, z109, z110, z111, z112, z113, z114, z115, z116, z117, z118, z119, z120, z121, z122, z123, z124, z125, z126, z127, z128, z129, z130, z131, z132, z133, z134, z135, z136, z137, z138, z139, z140, z141, z142, z143, z144, z145, z146, z147, z148, z149, z150, z151, z152, z153, z154, z155, z156, z157, z158, z159, z160, z161, z162, z163, z164, z165, z166, z167, z168, z169, z170, z171, z172, z173, z174, z175, z176, z177, z178, z179, z180, z181, z182, z183, z184, z185, z186, z187, z188, z189, z190, z191, z192, z193, z194, z195, z196, z197, z198, z199, z200, z201, z202, z203, z204, z205, z206, z207, z208, z209, z210, z211, z212, z213, z214, z215, z216, z217, z218, z219], []⟩ wr := by
  conv => arg 2; whnf
  dsimp only
  have hNL2 : Hid (N = (p ++ X1 ++ Y1 ++ X2 ++ Y2 ++ q).length) := Lib.hid (by rw [HNL.out]; simp only [List.length_append]; omega)
  obtain ⟨t2, ht2⟩ : ∃ t, Hid ((decide (a < s) && decide (s < mid)) = t) := ⟨_, Lib.hid rfl⟩
  go_upto_region 41 with (fail)
  go_cut [199] (fun s1 wx => s1 = .bool t2 ∧ Own w0 wx (slc 129 2 (.slice (some ⟨g, 0, none⟩) N c) N (rows ce (p ++ X1 ++ Y1 ++ X2 ++ Y2 ++ q)) :: ps))
  case first =>
    by_cases h1 : a < s
    · by_cases h2 : s < mid
      · have e : Hid (t2 = true) := Lib.hid (by rw [← ht2.out]; simp [h1, h2])
        go_wp2
        go_meet
        exact ⟨by rw [e.out], H⟩
      · have e : Hid (t2 = false) := Lib.hid (by rw [← ht2.out]; simp [h2])
        go_wp2
        go_meet
        exact ⟨by rw [e.out], H⟩
    · have e : Hid (t2 = false) := Lib.hid (by rw [← ht2.out]; simp [h1])
      go_wp2
      go_meet
      exact ⟨by rw [e.out], H⟩
  case rest =>
  clear H
  obtain ⟨rfl, H⟩ := hcut
  go_upto_if 199 with (fail)
  go_cut [] (fun wx => ∃ M1, Hid (Mrg key X1 Y1 M1) ∧ Own w0 wx (slc 129 2 (.slice (some ⟨g, 0, none⟩) N c) N (rows ce (p ++ M1 ++ X2 ++ Y2 ++ q)) :: ps))
  case first =>
    obtain ⟨l1, l2, l3, l4, l5, l6, l7, l8, l9, l10⟩ := hlens.out
    have hm2 := HMID2.out
    cases t2 with
    | true =>
      have h := ht2.out
      simp only [Bool.and_eq_true, decide_eq_true_eq] at h
      have e1 : p ++ X1 ++ Y1 ++ X2 ++ Y2 ++ q = p ++ X1 ++ Y1 ++ (X2 ++ Y2 ++ q) := by simp
      have hr := IH.out wc p X1 Y1 (X2 ++ Y2 ++ q) a s mid (by omega) HOX1.out HOY1.out HSX1.out HSY1.out l1 l2 l6 (by omega) (by omega) (by rw [← e1]; exact hNL2.out) (by rw [← e1]; exact H)
      have HR := Lib.hid hr
      clear hr l1 l2 l3 l4 l5 l6 l7 l8 l9 l10 h e1 hm2
      go_wp2_with fail
      refine HR.out.mono ?_
      rintro e w3 ⟨_, rfl, z, hz, H3⟩
      clear HR H
      go_wp2
      go_meet
      exact ⟨z, Lib.hid hz, by simpa using H3⟩
    | false =>
      have h := ht2.out
      simp only [Bool.and_eq_false_iff, decide_eq_false_iff_not] at h
      have e1 : Hid (Mrg key X1 Y1 (X1 ++ Y1)) := Lib.hid (by
        rcases h with h | h
        · have : X1 = [] := List.eq_nil_of_length_eq_zero (by omega)
          rw [this]; exact Mrg.right HSY1.out
        · have : Y1 = [] := List.eq_nil_of_length_eq_zero (by omega)
          rw [this, List.append_nil]; exact Mrg.left HSX1.out)
      clear l1 l2 l3 l4 l5 l6 l7 l8 l9 l10 h hm2
      go_wp2
      go_meet
      exact ⟨X1 ++ Y1, e1, by simpa using H⟩
  case rest =>
  clear H
  obtain ⟨M1, hM1, H⟩ := hcut
  apply_assumption
  exact tail3 (p := p) (q := q) (x := x) (y := y) (X1 := X1) (X2 := X2) (Y1 := Y1) (Y2 := Y2) (a := a) (m := m) (b := b) (s := s) (en := en) (mid := mid) (M1 := M1) wc hNb IH HFINAL HOX1 HOX2 HOY1 HOY2 HSX1 HSX2 HSY1 HSY2 HNL HMID2 ham hmb hbN hlens hensN1 hensN2 hmN1 hM1 _ _ _ _ _ _ _ _ _ _ _ _ _ _ _ _ _ _ _ _ _ _ _ _ _ _ _ _ _ _ _ _ _ _ _ _ _ _ _ _ _ _ _ _ _ _ _ _ _ _ _ _ _ _ _ _ _ _ _ _ _ _ _ _ _ _ _ _ _ _ _ _ _ _ _ _ _ _ _ _ _ _ _ _ _ _ _ _ _ _ _ _ _ _ _ _ _ _ _ _ _ _ _ _ _ _ _ _ _ _ _ _ _ _ _ _ _ _ _ _ _ _ _ _ _ _ _ _ _ _ _ _ _ _ _ _ _ _ _ _ _ _ _ _ _ _ _ _ _ _ _ _ _ _ _ _ _ _ _ _ _ _ _ _ _ _ _ _ _ _ _ _ _ _ _ _ _ _ _ _ _ _ _ _ _ _ _ _ _ _ _ _ _ _ _ _ _ _ _ _ _ _ _ _ _ _ _ _ _ _ _ _ H

set_option maxRecDepth 1000000 in
set_option maxHeartbeats 12800000 in
theorem tail_any {g c N f : Nat} {p q x y X1 X2 Y1 Y2 : List Coin} {a m b s en mid : Nat} {n : Nat} (wr : World) (hNb : N ≤ 1000000) (IH : Hid (SymAt w0 ps ok key B g c N f)) (HFINAL : Hid (∀ z1 z2, Mrg key X1 Y1 z1 → Mrg key X2 Y2 z2 → Mrg key x y (z1 ++ z2)))
    (HOX1 : Hid (∀ v ∈ X1, ok v)) (HOX2 : Hid (∀ v ∈ X2, ok v)) (HOY1 : Hid (∀ v ∈ Y1, ok v)) (HOY2 : Hid (∀ v ∈ Y2, ok v)) (HSX1 : Hid (Srt key X1)) (HSX2 : Hid (Srt key X2)) (HSY1 : Hid (Srt key Y1)) (HSY2 : Hid (Srt key Y2))
    (HNL : Hid (N = (p ++ X1 ++ X2 ++ Y1 ++ Y2 ++ q).length)) (HMID2 : Hid (mid + mid ≤ a + b ∧ a + b ≤ mid + mid + 1)) (ham : a + 2 ≤ m) (hmb : m + 2 ≤ b) (hbN : b ≤ N)
    (hlens : Hid (a = p.length ∧ s = a + X1.length ∧ m = s + X2.length ∧ en = m + Y1.length ∧ b = en + Y2.length ∧ mid = s + Y1.length ∧ en = mid + X2.length ∧ X1.length + X2.length + (Y1.length + Y2.length) ≤ f + 1 ∧ 0 < X1.length + X2.length ∧ 0 < Y1.length + Y2.length))
    (hensN1 : en ≤ N) (hensN2 : s ≤ N) (hmN1 : mid ≤ N) (henI : ((n : Int) - (s : Int)) = (en : Int)) (hsn : s ≤ n) (hmN2 : n ≤ 2 * N) (z5 z6 z7 z8 z9 z10 z11 z12 z13 z14 z15 z16 z17 z21 z22 z23 z24 z25 z26 z27 z28 z29 z30 z31 z32 z33 z34 z35 z36 z37 z38 z39 z40 z41 z42 z43 z44 z45 z46 z47 z48 z49 z50 z51 z52 z53 z54 z55 z56 z57 z58 z59 z60 z61 z62 z63 z64 z65 z66 z67 z68 z69 z70 z71 z72 z73 z74 z75 z76 z77 z78 z79 z80 z81 z82 z83 z84 z85 z86 z87 z88 z89 z90 z91 z92 z93 z94 z95 z96 z97 z98 z99 z100 z101 z102 z103 z104 z105 z106 z107 z108 z109 z110 z111 z112 z113 z114 z115 z116 z117 z118 z119 z120 z121 z122 z123 z124 z125 z126 z127 z128 z129 z130 z131 z132 z133 z134 z135 z136 z137 z138 z139 z140 z141 z142 z143 z144 z145 z146 z147 z148 z149 z150 z151 z152 z153 z154 z155 z156 z157 z158 z159 z160 z161 z162 z163 z164 z165 z166 z167 z168 z169 z170 z171 z172 z173 z174 z175 z176 z177 z178 z179 z180 z181 z182 z183 z184 z185 z186 z187 z188 z189 z190 z191 z192 z193 z194 z195 z196 z197 z198 z199 z200 z201 z202 z203 z204 z205 z206 z207 z208 z209 z210 z211 z212 z213 z214 z215 z216 z217 z218 z219 : Value)
    (H : Own w0 wr (slc 129 2 (.slice (some ⟨g, 0, none⟩) N c) N (rows ce (p ++ X1 ++ X2 ++ Y1 ++ Y2 ++ q)) :: ps)) :
    Code.wp Try.prog (symTail 38) (bodyPost Try.prog Try.f107 (Ret fun _ w' => ∃ z, Mrg key x y z ∧ Own w0 w' (slc 129 2 (.slice (some ⟨g, 0, none⟩) N c) N (rows ce (p ++ z ++ q)) :: ps))) ⟨#[.slice (some ⟨g, 0, none⟩) N c, .int .i64 a, .int .i64 m, .int .i64 b, cf B, z5, z6, z7, z8, z9, z10, z11, z12, z13, z14, z15, z16, z17, .int .i64 mid, .int .i64 n, .int .i64 s, z21, z22, z23, z24, z25, z26, z27, z28, z29, z30, z31, z32, z33, z34, z35, z36, z37, z38, z39, z40, z41, z42, z43, z44, z45, z46, z47, z48, z49, z50, z51, z52, z53, z54, z55, z56, z57, z58, z59, z60, z61, z62, z63, z64, z65, z66, z67, z68, z69, z70, z71, z72, z73, z74, z75, z76, z77, z78, z79, z80, z81, z82, z83, z84, z85, z86, z87, z88, z89, z90, z91, z92, z93, z94, z95, z96, z97, z98, z99, z100, z101, z102, z103, z104, z105, z106, z107, z108, z109, z110, z111, z112, z113, z114, z115, z116, z117, z118, z119, z120, z121, z122, z123, z124, z125, z126, z127, z128, z129, z130, z131, z132, z133, z134, z135, z136, z137, z138, z139, z140, z141, z142, z143, z144, z145, z146, z147, z148, z149, z150, z151, z152, z153, z154, z155, z156, z157, z158, z159, z160, z161, z162, z163, z164, z165, z166, z167, z168, z169, z170, z171, z172, z173, z174, z175, z176, z177, z178, z179, z180, z181, z182, z183, z184, z185, z186, z187, z188, z189, z190, z191, z192, z193, z194, z195, z196, z197, z198, z199, z200, z201, z202, z203, z204, z205, z206, z207, z208, z209, z210, z211, z212, z213, z214, z215, z216, z217, z218, z219], []⟩ wr := by
  conv => arg 2; whnf
  dsimp only
  obtain ⟨t1, ht1⟩ : ∃ t, Hid ((decide (s < m) && decide (m < en)) = t) := ⟨_, Lib.hid rfl⟩
  go_upto_region 39 with (fail)
  go_cut [185] (fun s1 wx => s1 = .bool t1 ∧ Own w0 wx (slc 129 2 (.slice (some ⟨g, 0, none⟩) N c) N (rows ce (p ++ X1 ++ X2 ++ Y1 ++ Y2 ++ q)) :: ps))
  case first =>
    by_cases h1 : s < m
    · by_cases h2 : m < en
      · have e : Hid (t1 = true) := Lib.hid (by rw [← ht1.out]; simp [h1, h2])
        go_wp2
        go_meet
        exact ⟨by rw [e.out], H⟩
      · have e : Hid (t1 = false) := Lib.hid (by rw [← ht1.out]; simp [h2])
        go_wp2
        go_meet
        exact ⟨by rw [e.out], H⟩
    · have e : Hid (t1 = false) := Lib.hid (by rw [← ht1.out]; simp [h1])
      go_wp2
      go_meet
      exact ⟨by rw [e.out], H⟩
  case rest =>
  clear H
  obtain ⟨rfl, H⟩ := hcut
  go_upto_if 185 with (fail)
  go_cut [] (fun wx => Own w0 wx (slc 129 2 (.slice (some ⟨g, 0, none⟩) N c) N (rows ce (p ++ X1 ++ Y1 ++ X2 ++ Y2 ++ q)) :: ps))
  case first =>
    obtain ⟨l1, l2, l3, l4, l5, l6, l7, l8, l9, l10⟩ := hlens.out
    cases t1 with
    | true =>
      have h := ht1.out
      simp only [Bool.and_eq_true, decide_eq_true_eq] at h
      have e1 : p ++ X1 ++ X2 ++ Y1 ++ Y2 ++ q = (p ++ X1) ++ X2 ++ Y1 ++ (Y2 ++ q) := by simp
      have hr := rotate_any (w0 := w0) (w := wc) (ps := ps) (g := g) (c := c) (N := N) (p := p ++ X1) (x := X2) (y := Y1) (q := Y2 ++ q) (a := s) (m := m) (b := en) (cf B) (by rw [List.length_append]; omega) l3 l4 (by omega) (by omega) (by rw [← e1]; exact HNL.out) hNb (by rw [← e1]; exact H)
      have HR := Lib.hid hr
      clear hr l1 l2 l3 l4 l5 l6 l7 l8 l9 l10 h e1
      go_wp2_with fail
      refine HR.out.mono ?_
      rintro e w3 ⟨_, rfl, H3⟩
      clear HR H
      go_wp2
      go_meet
      simpa using H3
    | false =>
      have h := ht1.out
      simp only [Bool.and_eq_false_iff, decide_eq_false_iff_not] at h
      have e1 : p ++ X1 ++ X2 ++ Y1 ++ Y2 ++ q = p ++ X1 ++ Y1 ++ X2 ++ Y2 ++ q := by
        rcases h with h | h
        · have : X2 = [] := List.eq_nil_of_length_eq_zero (by omega)
          rw [this]; simp
        · have : Y1 = [] := List.eq_nil_of_length_eq_zero (by omega)
          rw [this]; simp
      rw [e1] at H
      clear l1 l2 l3 l4 l5 l6 l7 l8 l9 l10 h e1
      go_wp2
      go_meet
      exact H
  case rest =>
  clear H
  have H := hcut
  clear hcut
  apply_assumption
  exact tail2 (p := p) (q := q) (x := x) (y := y) (X1 := X1) (X2 := X2) (Y1 := Y1) (Y2 := Y2) (a := a) (m := m) (b := b) (s := s) (en := en) (mid := mid) wc hNb IH HFINAL HOX1 HOX2 HOY1 HOY2 HSX1 HSX2 HSY1 HSY2 HNL HMID2 ham hmb hbN hlens hensN1 hensN2 hmN1 _ _ _ _ _ _ _ _ _ _ _ _ _ _ _ _ _ _ _ _ _ _ _ _ _ _ _ _ _ _ _ _ _ _ _ _ _ _ _ _ _ _ _ _ _ _ _ _ _ _ _ _ _ _ _ _ _ _ _ _ _ _ _ _ _ _ _ _ _ _ _ _ _ _ _ _ _ _ _ _ _ _ _ _ _ _ _ _ _ _ _ _ _ _ _ _ _ _ _ _ _ _ _ _ _ _ _ _ _ _ _ _ _ _ _ _ _ _ _ _ _ _ _ _ _ _ _ _ _ _ _ _ _ _ _ _ _ _ _ _ _ _ _ _ _ _ _ _ _ _ _ _ _ _ _ _ _ _ _ _ _ _ _ _ _ _ _ _ _ _ _ _ _ _ _ _ _ _ _ _ _ _ _ _ _ _ _ _ _ _ _ _ _ _ _ _ _ _ _ _ _ _ _ _ _ _ _ _ _ _ _ _ H
end
end SC
end Go.Proofs.Ytpbodonmiepilaa
/- The stable sort of slices of coins: the walk of symMerge. (Written by tools/srt.py.) -/
namespace Go.Proofs.Ytpbodonmiepilaa
open Go.RowKit
namespace SC
theorem srt_le {α : Type} {key : α → Int} {l : List α} (h : Srt key l) {i j : Nat} {u v : α} (hu : l[i]? = some u) (hv : l[j]? = some v) (hij : i ≤ j) : key u ≤ key v := by
  obtain ⟨h1, rfl⟩ := List.getElem?_eq_some_iff.1 hu
  obtain ⟨h2, rfl⟩ := List.getElem?_eq_some_iff.1 hv
  rcases Nat.lt_or_eq_of_le hij with h3 | h3
  · exact List.pairwise_iff_getElem.1 h i j h1 h2 h3
  · subst h3; exact Int.le_refl _
section
variable {w0 : World} {ps : List Piece} {ok : Coin → Prop} {key : Coin → Int} {B : Nat}
set_option maxRecDepth 100000 in
set_option maxHeartbeats 12800000 in
theorem sym_any {g c N : Nat} (hcmp : Cmps w0 ps B ok key) (hNb : N ≤ 1000000) : ∀ (f : Nat), SymAt w0 ps ok key B g c N f := by
  intro f
  induction f with
  | zero => intro w p x y q a m b hf _ _ _ _ _ _ _ h1 _ _ _; omega
  | succ f ih =>
  intro w p x y q a m b hf hokx hoky hsx hsy ha hm hb hx0 hy0 hN H
  by_cases hx1 : x.length = 1
  · obtain ⟨u, rfl⟩ := List.length_eq_one_iff.1 hx1
    exact symL_any hcmp (hokx u (by simp)) hoky hsy ha (by simpa using hm) hb hN hNb H
  by_cases hy1 : y.length = 1
  · obtain ⟨u, rfl⟩ := List.length_eq_one_iff.1 hy1
    exact symR_any hcmp (hoky u (by simp)) hokx hsx (by omega) ha hm (by simpa using hb) hN hNb H
  have hbN : b ≤ N := by rw [hN]; simp only [List.length_append]; omega
  have hNc : N ≤ c := by obtain ⟨_, _, e, h1, _⟩ := H.rd.shape; cases e; exact h1
  have hc2 : c ≤ 9223372036854775807 := by obtain ⟨_, _, e, _, h1⟩ := H.rd.shape; cases e; exact h1
  have hgx : ∀ (t : Nat) v, x[t]? = some v → (p ++ x ++ y ++ q)[a + t]? = some v := by
    intro t v hv
    have : p ++ x ++ y ++ q = p ++ (x ++ (y ++ q)) := by simp
    rw [this, List.getElem?_append_right (by omega), List.getElem?_append_left (by have := (List.getElem?_eq_some_iff.1 hv).1; omega)]
    rw [show a + t - p.length = t by omega]
    exact hv
  have hgy : ∀ (t : Nat) v, y[t]? = some v → (p ++ x ++ y ++ q)[m + t]? = some v := by
    intro t v hv
    have : p ++ x ++ y ++ q = (p ++ x) ++ (y ++ q) := by simp
    rw [this, List.getElem?_append_right (by rw [List.length_append]; omega), List.getElem?_append_left (by have := (List.getElem?_eq_some_iff.1 hv).1; rw [List.length_append]; omega)]
    rw [show m + t - (p ++ x).length = t by rw [List.length_append]; omega]
    exact hv
  have HGX := Lib.hid hgx
  have HGY := Lib.hid hgy
  have HP := Lib.hid ha
  have HM := Lib.hid hm
  have HB := Lib.hid hb
  have HN := Lib.hid hN
  have HC := Lib.hid hcmp
  have HOX := Lib.hid hokx
  have HOY := Lib.hid hoky
  have HSX := Lib.hid hsx
  have HSY := Lib.hid hsy
  have HF := Lib.hid hf
  have IH : Hid (SymAt w0 ps ok key B g c N f) := Lib.hid ih
  obtain ⟨L, hL⟩ : ∃ L, Hid (p ++ x ++ y ++ q = L) := ⟨_, Lib.hid rfl⟩
  rw [hL.out] at H HGX HGY
  have ham : a + 2 ≤ m := by omega
  have hmb : m + 2 ≤ b := by omega
  have hma : (((m : Int) - (a : Int)) == 1) = false := by simp; omega
  have hbm : (((b : Int) - (m : Int)) == 1) = false := by simp; omega
  obtain ⟨mid, hmid⟩ : ∃ h, Hid ((a + b) / 2 = h) := ⟨_, rfl⟩
  have hsI : (((a : Int) + (b : Int)) / 2) = (mid : Int) := by have := hmid.out; omega
  have hsU : IntKind.u64.wrap ((a : Int) + (b : Int)) = (a : Int) + (b : Int) := by simp [IntKind.wrap, IntKind.bits, IntKind.signed]; omega
  obtain ⟨n, hn⟩ : ∃ n, Hid (mid + m = n) := ⟨_, rfl⟩
  have hnI : ((mid : Int) + (m : Int)) = (n : Int) := by have := hn.out; omega
  have hmid2 : mid + mid ≤ a + b ∧ a + b ≤ mid + mid + 1 := by rw [← hmid.out]; omega
  have hmN : mid ≤ N ∧ n ≤ 2 * N := by have := hn.out; omega
  obtain ⟨hmN1, hmN2⟩ := hmN
  have hn1 : 1 ≤ n := by have := hn.out; omega
  have HMID2 := Lib.hid hmid2
  clear hmid2 ih hf hokx hoky hsx hsy ha hm hb hx0 hy0 hN hgx hgy hcmp hx1 hy1
  go_enter Try.func107, Try.ntmps107
  go_upto_if 140 with (fail)
  go_cut [20, 21] (fun s20 s21 wx => wx = w ∧ ∃ lo hi : Nat, s20 = .int .i64 lo ∧ s21 = .int .i64 hi ∧ Hid (a ≤ lo ∧ lo ≤ hi ∧ hi ≤ m ∧ (lo = a ∨ n = lo + b) ∧ (hi = m ∨ hi + m = n) ∧ (n ≤ lo + b ∧ m + hi ≤ n) ∧ ∀ c, lo ≤ c → c < hi → m + c + 1 ≤ n ∧ n ≤ b + c))
  case first =>
    have hm2 := HMID2.out
    have hn2 := hn.out
    by_cases hmm : mid < m
    · have hmmI : (mid : Int) < (m : Int) := by omega
      obtain ⟨lo, hlo⟩ : ∃ lo, n = lo + b := ⟨n - b, by omega⟩
      have hloI : ((n : Int) - (b : Int)) = (lo : Int) := by omega
      have hfacts : a ≤ lo ∧ lo ≤ mid ∧ mid ≤ m ∧ (lo = a ∨ n = lo + b) ∧ (mid = m ∨ mid + m = n) ∧ (n ≤ lo + b ∧ m + mid ≤ n) ∧ ∀ c, lo ≤ c → c < mid → m + c + 1 ≤ n ∧ n ≤ b + c := ⟨by omega, by omega, by omega, .inr hlo, .inr hn2, ⟨by omega, by omega⟩, fun c h1 h2 => ⟨by omega, by omega⟩⟩
      have HFA := Lib.hid hfacts
      clear hfacts hlo hn2 hm2
      go_wp2_with fail
      go_meet
      exact ⟨rfl, lo, mid, by go_num, rfl, HFA⟩
    · have hmmI : ¬ ((mid : Int) < (m : Int)) := by omega
      have hfacts : a ≤ a ∧ a ≤ m ∧ m ≤ m ∧ (a = a ∨ n = a + b) ∧ (m = m ∨ m + m = n) ∧ (n ≤ a + b ∧ m + m ≤ n) ∧ ∀ c, a ≤ c → c < m → m + c + 1 ≤ n ∧ n ≤ b + c := ⟨by omega, by omega, by omega, .inl rfl, .inl rfl, ⟨by omega, by omega⟩, fun c h1 h2 => ⟨by omega, by omega⟩⟩
      clear hfacts hn2 hm2
      go_wp2_with fail
      go_meet
      refine ⟨rfl, a, m, rfl, rfl, Lib.hid ?_⟩
      have hm2 := HMID2.out
      have hn2 := hn.out
      exact ⟨by omega, by omega, by omega, .inl rfl, .inl rfl, ⟨by omega, by omega⟩, fun c h1 h2 => ⟨by omega, by omega⟩⟩
  case rest =>
    obtain ⟨rfl, lo, hi, rfl, rfl, HFA⟩ := hcut
    obtain ⟨pp, hpp⟩ : ∃ pp, n = pp + 1 := ⟨n - 1, by omega⟩
    have hppI : ((n : Int) - 1) = (pp : Int) := by omega
    have HPP := Lib.hid hpp
    have hppN : pp ≤ 2 * N := by omega
    clear hpp
    go_upto_block 8 with (fail)
    go_cut [20] (fun s20 wx => ∃ s : Nat, s20 = .int .i64 s ∧ lo ≤ s ∧ s ≤ hi ∧ Hid (s = lo ∨ ∃ u v, x[s - 1 - a]? = some u ∧ y[n - s - m]? = some v ∧ key u ≤ key v) ∧ Hid (s = hi ∨ ∃ u v, x[s - a]? = some u ∧ y[n - 1 - s - m]? = some v ∧ key v < key u) ∧ Own w0 wx (slc 129 2 (.slice (some ⟨g, 0, none⟩) N c) N (rows ce L) :: ps))
    case first =>
      go_wp2_with fail
      go_loopw [20, 21] (fun s20 s21 wx => ∃ (s r : Nat), s20 = .int .i64 s ∧ s21 = .int .i64 r ∧ lo ≤ s ∧ s ≤ r ∧ r ≤ hi ∧ Hid (s = lo ∨ ∃ u v, x[s - 1 - a]? = some u ∧ y[n - s - m]? = some v ∧ key u ≤ key v) ∧ Hid (r = hi ∨ ∃ u v, x[r - a]? = some u ∧ y[n - 1 - r - m]? = some v ∧ key v < key u) ∧ Own w0 wx (slc 129 2 (.slice (some ⟨g, 0, none⟩) N c) N (rows ce L) :: ps)) (fun s20 s21 _ => (intOf s21).toNat - (intOf s20).toNat)
      case atStart => exact ⟨lo, hi, rfl, by go_num, Nat.le_refl _, HFA.out.2.1, Nat.le_refl _, Lib.hid (.inl rfl), Lib.hid (.inl rfl), H⟩
      case round =>
        clear H hppI
        obtain ⟨s, r, rfl, rfl, hls, hsr, hrh, hlo, hhi, H⟩ := hrel
        by_cases hlt : s < r
        · obtain ⟨h, hh⟩ : ∃ h, Hid ((s + r) / 2 = h) := ⟨_, rfl⟩
          have hsh : s ≤ h := by rw [← hh.out]; omega
          have hhr : h < r := by rw [← hh.out]; omega
          have hsI2 : (((s : Int) + (r : Int)) / 2) = (h : Int) := by have := hh.out; omega
          have hrm : r ≤ N := by have := HFA.out.2.2.1; omega
          have hsU2 : IntKind.u64.wrap ((s : Int) + (r : Int)) = (s : Int) + (r : Int) := by simp [IntKind.wrap, IntKind.bits, IntKind.signed]; omega
          obtain ⟨hf1, hf2⟩ := HFA.out.2.2.2.2.2.2 h (by omega) (by omega)
          obtain ⟨t, ht⟩ : ∃ t, h = a + t := ⟨h - a, by have := HFA.out.1; omega⟩
          obtain ⟨u, hu⟩ := get_of_lt (l := x) (k := t) (by have := HM.out; have := HFA.out.2.2.1; omega)
          obtain ⟨pc, hpc⟩ : ∃ pc, n = pc + 1 + h := ⟨n - 1 - h, by omega⟩
          obtain ⟨t2, ht2⟩ : ∃ t2, pc = m + t2 := ⟨pc - m, by omega⟩
          obtain ⟨v, hv⟩ := get_of_lt (l := y) (k := t2) (by have := HB.out; omega)
          have hg1 := HGX.out t u hu
          have hg2 := HGY.out t2 v hv
          rw [← ht] at hg1
          rw [← ht2] at hg2
          have HG1 := Lib.hid hg1
          have HG2 := Lib.hid hg2
          have hoku : ok u := HOX.out u (List.mem_of_getElem? hu)
          have hokv : ok v := HOY.out v (List.mem_of_getElem? hv)
          have hpcI : ((pp : Int) - (h : Int)) = (pc : Int) := by have := HPP.out; omega
          have hpcN : (pc : Int) < (N : Int) := by omega
          have hhN : (h : Int) < (N : Int) := by omega
          have hcall := fun (wz : World) (h : Own w0 wz (slc 129 2 (.slice (some ⟨g, 0, none⟩) N c) N (rows ce L) :: ps)) => HC.out wz _ h v u hokv hoku
          have hcl := cmpI_lt (key v) (key u)
          obtain ⟨cv, hcv⟩ : ∃ cv, Hid (cmpI (key v) (key u) = cv) := ⟨_, rfl⟩
          simp only [hcv.out] at hcall hcl
          have HCALL := Lib.hid hcall
          have hlo2 : ¬ key v < key u → Hid (h + 1 = lo ∨ ∃ u v, x[h + 1 - 1 - a]? = some u ∧ y[n - (h + 1) - m]? = some v ∧ key u ≤ key v) := fun hk => Lib.hid (.inr ⟨u, v, by rw [show h + 1 - 1 - a = t by omega]; exact hu, by rw [show n - (h + 1) - m = t2 by omega]; exact hv, by omega⟩)
          have hhi2 : key v < key u → Hid (h = hi ∨ ∃ u v, x[h - a]? = some u ∧ y[n - 1 - h - m]? = some v ∧ key v < key u) := fun hk => Lib.hid (.inr ⟨u, v, by rw [show h - a = t by omega]; exact hu, by rw [show n - 1 - h - m = t2 by omega]; exact hv, hk⟩)
          have HLO2 := Lib.hid hlo2
          have HHI2 := Lib.hid hhi2
          clear hlo2 hhi2 hg1 hg2 hu hv ht ht2 hcall hf1 hf2 hpc
          go_upto_region 35 with (fail)
          refine wp_region_calm (fun w1 => Own w0 w1 (slc 129 2 (.slice (some ⟨g, 0, none⟩) N c) N (rows ce L) :: ps)) 12 (by kernel_rfl) (by kernel_rfl) H.drew ?_
          simp only [List.take_succ_cons, List.take_zero, List.drop_succ_cons, List.drop_zero]
          have hpw : IntKind.i64.wrap (pc : Int) = (pc : Int) := IntWalk.i64_in _ ⟨by omega, by omega⟩
          repeat
            first
            | (refine calm_value (v := ?_) (by decide) rfl (fun σ w1 hS => ?_) ?_
               rotate_left
               · obtain ⟨c1, c1'⟩ := el hS.rd HG1.out; obtain ⟨c2, c2'⟩ := el hS.rd HG2.out
                 first | (go_simp; rfl) | rfl
               simp only [Act.put, List.setIfInBounds_toArray, List.set_cons_zero, List.set_cons_succ])
            | (refine calm_skip (by decide) rfl ?_
               simp only [Act.put, List.setIfInBounds_toArray, List.set_cons_zero, List.set_cons_succ])
          refine calm_call (v := .int .i64 cv) (by decide) rfl (fun w1 => (by go_simp; first | exact ⟨rfl, rfl⟩ | rfl)) (fun σ w1 hS => ?_) ?_
          · refine (HCALL.out w1 hS).mono ?_
            rintro e w2 ⟨_, rfl, rfl, h2⟩
            exact ⟨rfl, hS.join h2⟩
          simp only [Act.put, List.setIfInBounds_toArray, List.set_cons_zero, List.set_cons_succ]
          refine calm_nil ?_
          intro wd HD
          clear H
          by_cases hk : key v < key u
          · have hk2 : decide (cv < 0) = true := by rw [hcl]; simp [hk]
            have hn' := HHI2.out hk
            clear hk hcl HLO2
            go_wp2
            go_roundw
            case rel => exact ⟨s, h, rfl, by go_num, by omega, by omega, by omega, hlo, hn', HD⟩
            case measure => simp [intOf]; omega
          · have hk2 : decide (cv < 0) = false := by rw [hcl]; simp [hk]
            have hn' := HLO2.out hk
            clear hk hcl HHI2
            go_wp2
            go_roundw
            case rel => exact ⟨h + 1, r, by go_num, rfl, by omega, by omega, by omega, hn', hhi, HD⟩
            case measure => simp [intOf]; omega
        · have hsr2 : s = r := by omega
          subst hsr2
          clear hlt
          go_wp2
          go_meet
          exact ⟨s, rfl, hls, hrh, hlo, hhi, H⟩
    case rest =>
      clear H hppI
      obtain ⟨s, rfl, hls, hrh, hlo, hhi, H⟩ := hcut
      obtain ⟨q1, q2, q3, q4, q5, q7, q6⟩ := HFA.out
      have hm2 := HMID2.out
      have hn2 := hn.out
      have hMl := HM.out
      have hBl := HB.out
      obtain ⟨en, hen⟩ : ∃ en, n = en + s := ⟨n - s, by omega⟩
      have henb : en ≤ b := by omega
      have hmen : m ≤ en := by omega
      obtain ⟨X1, X2, hxs, hX1⟩ := split_at x (s - a) (by omega)
      obtain ⟨Y1, Y2, hys, hY1⟩ := split_at y (en - m) (by omega)
      have hX2l : s + X2.length = m := by rw [hxs, List.length_append] at hMl; omega
      have hY2l : en + Y2.length = b := by rw [hys, List.length_append] at hBl; omega
      have hA : ∀ d ∈ X2, ∀ e ∈ Y1, key e < key d := by
        intro d hd e he
        rcases hhi.out with h | ⟨u, v, hu, hv, huv⟩
        · rcases q5 with h2 | h2
          · have : X2 = [] := List.eq_nil_of_length_eq_zero (by omega)
            rw [this] at hd; simp at hd
          · have : Y1 = [] := List.eq_nil_of_length_eq_zero (by omega)
            rw [this] at he; simp at he
        · obtain ⟨i', hi', rfl⟩ := List.getElem_of_mem hd
          obtain ⟨j', hj', rfl⟩ := List.getElem_of_mem he
          have h1 : x[X1.length + i']? = some X2[i'] := by rw [hxs, List.getElem?_append_right (by omega), Nat.add_sub_cancel_left, List.getElem?_eq_getElem hi']
          have h2 : y[j']? = some Y1[j'] := by rw [hys, List.getElem?_append_left hj', List.getElem?_eq_getElem hj']
          have h3 := srt_le HSX.out hu h1 (by omega)
          have h4 := srt_le HSY.out h2 hv (by omega)
          omega
      have hB' : ∀ d ∈ X1, ∀ e ∈ Y2, key d ≤ key e := by
        intro d hd e he
        rcases hlo.out with h | ⟨u, v, hu, hv, huv⟩
        · rcases q4 with h2 | h2
          · have : X1 = [] := List.eq_nil_of_length_eq_zero (by omega)
            rw [this] at hd; simp at hd
          · have : Y2 = [] := List.eq_nil_of_length_eq_zero (by omega)
            rw [this] at he; simp at he
        · obtain ⟨i', hi', rfl⟩ := List.getElem_of_mem hd
          obtain ⟨j', hj', rfl⟩ := List.getElem_of_mem he
          have h1 : x[i']? = some X1[i'] := by rw [hxs, List.getElem?_append_left hi', List.getElem?_eq_getElem hi']
          have h2 : y[Y1.length + j']? = some Y2[j'] := by rw [hys, List.getElem?_append_right (by omega), Nat.add_sub_cancel_left, List.getElem?_eq_getElem hj']
          have h3 := srt_le HSX.out h1 hu (by omega)
          have h4 := srt_le HSY.out hv h2 (by omega)
          omega
      have hfinal : ∀ z1 z2, Mrg key X1 Y1 z1 → Mrg key X2 Y2 z2 → Mrg key x y (z1 ++ z2) := fun z1 z2 h1 h2 => by
        rw [hxs, hys]
        exact Mrg.two h1 h2 (by rw [← hxs]; exact HSX.out) (by rw [← hys]; exact HSY.out) hA hB'
      have HFINAL := Lib.hid hfinal
      have HOX1 : Hid (∀ v ∈ X1, ok v) := Lib.hid fun v hv => HOX.out v (by rw [hxs]; simp [hv])
      have HOX2 : Hid (∀ v ∈ X2, ok v) := Lib.hid fun v hv => HOX.out v (by rw [hxs]; simp [hv])
      have HOY1 : Hid (∀ v ∈ Y1, ok v) := Lib.hid fun v hv => HOY.out v (by rw [hys]; simp [hv])
      have HOY2 : Hid (∀ v ∈ Y2, ok v) := Lib.hid fun v hv => HOY.out v (by rw [hys]; simp [hv])
      have HSX1 : Hid (Srt key X1) := Lib.hid (by have := HSX.out; rw [hxs] at this; exact this.left)
      have HSX2 : Hid (Srt key X2) := Lib.hid (by have := HSX.out; rw [hxs] at this; exact this.right)
      have HSY1 : Hid (Srt key Y1) := Lib.hid (by have := HSY.out; rw [hys] at this; exact this.left)
      have HSY2 : Hid (Srt key Y2) := Lib.hid (by have := HSY.out; rw [hys] at this; exact this.right)
      have HL2 : Hid (L = p ++ X1 ++ X2 ++ Y1 ++ Y2 ++ q) := Lib.hid (by rw [← hL.out, hxs, hys]; simp)
      have HNL : Hid (N = (p ++ X1 ++ X2 ++ Y1 ++ Y2 ++ q).length) := Lib.hid (by rw [← HL2.out, ← hL.out]; exact HN.out)
      have hlens : Hid (a = p.length ∧ s = a + X1.length ∧ m = s + X2.length ∧ en = m + Y1.length ∧ b = en + Y2.length ∧ mid = s + Y1.length ∧ en = mid + X2.length ∧ X1.length + X2.length + (Y1.length + Y2.length) ≤ f + 1 ∧ 0 < X1.length + X2.length ∧ 0 < Y1.length + Y2.length) := Lib.hid (by
        have h1 := HP.out
        have h2 := HF.out
        rw [hxs, hys, List.length_append, List.length_append] at h2
        rw [hxs, List.length_append] at hMl
        rw [hys, List.length_append] at hBl
        refine ⟨h1, by omega, by omega, by omega, by omega, by omega, by omega, by omega, by omega, by omega⟩)
      have henI : ((n : Int) - (s : Int)) = (en : Int) := by omega
      have hensN : en ≤ N ∧ s ≤ N := ⟨by omega, by omega⟩
      obtain ⟨hensN1, hensN2⟩ := hensN
      have hsn : s ≤ n := by omega
      rw [HL2.out] at H
      clear q1 q2 q3 q4 q5 q6 q7 hm2 hn2 hMl hBl hen henb hmen hxs hys hX1 hY1 hX2l hY2l hA hB' hfinal hlo hhi hL hsI hnI
      apply_assumption
      exact tail_any (p := p) (q := q) (x := x) (y := y) (X1 := X1) (X2 := X2) (Y1 := Y1) (Y2 := Y2) (a := a) (m := m) (b := b) (s := s) (en := en) (mid := mid) (n := n) wc hNb IH HFINAL HOX1 HOX2 HOY1 HOY2 HSX1 HSX2 HSY1 HSY2 HNL HMID2 ham hmb hbN hlens hensN1 hensN2 hmN1 henI hsn hmN2 _ _ _ _ _ _ _ _ _ _ _ _ _ _ _ _ _ _ _ _ _ _ _ _ _ _ _ _ _ _ _ _ _ _ _ _ _ _ _ _ _ _ _ _ _ _ _ _ _ _ _ _ _ _ _ _ _ _ _ _ _ _ _ _ _ _ _ _ _ _ _ _ _ _ _ _ _ _ _ _ _ _ _ _ _ _ _ _ _ _ _ _ _ _ _ _ _ _ _ _ _ _ _ _ _ _ _ _ _ _ _ _ _ _ _ _ _ _ _ _ _ _ _ _ _ _ _ _ _ _ _ _ _ _ _ _ _ _ _ _ _ _ _ _ _ _ _ _ _ _ _ _ _ _ _ _ _ _ _ _ _ _ _ _ _ _ _ _ _ _ _ _ _ _ _ _ _ _ _ _ _ _ _ _ _ _ _ _ _ _ _ _ _ _ _ _ _ _ _ _ _ _ _ _ _ _ _ _ _ _ _ _ H
end
end SC
end Go.Proofs.Ytpbodonmiepilaa
/- The stable sort of slices of coins: the walk of stable. (Written by tools/srt.py.) -/
namespace Go.Proofs.Ytpbodonmiepilaa
open Go.RowKit
namespace SC
section
variable {w0 w : World} {ps : List Piece} {ok : Coin → Prop} {key : Coin → Int} {B : Nat}
set_option maxRecDepth 100000 in
set_option maxHeartbeats 6400000 in
theorem stable_any {g c N : Nat} {l : List Coin} (hcmp : Cmps w0 ps B ok key) (hok : ∀ x ∈ l, ok x) (hN : N = l.length) (hNb : N ≤ 1000000)
    (H : Own w0 w (slc 129 2 (.slice (some ⟨g, 0, none⟩) N c) N (rows ce l) :: ps)) :
    Calls Try.prog 104 #[.slice (some ⟨g, 0, none⟩) N c, .int .i64 N, cf B] w (Ret fun _ w' => Own w0 w' (slc 129 2 (.slice (some ⟨g, 0, none⟩) N c) N (rows ce (sortF key l)) :: ps)) := by
  have HN := Lib.hid hN
  have HC := Lib.hid hcmp
  have HOK := Lib.hid hok
  clear hN hcmp hok
  go_enter Try.func104, Try.ntmps104
  go_upto_block 0 with (fail)
  go_cut [7] (fun s7 wx => ∃ (a : Nat) (P R : List Coin), s7 = .int .i64 a ∧ a ≤ N ∧ N < a + 20 ∧ Hid (P.length = a) ∧ Hid (StEq key l (P ++ R)) ∧ Hid (FullC key 20 P) ∧ Own w0 wx (slc 129 2 (.slice (some ⟨g, 0, none⟩) N c) N (rows ce (P ++ R)) :: ps))
  case first =>
    go_wp2_with fail
    go_loopw [7, 8] (fun s7 s8 wx => ∃ (a : Nat) (P R : List Coin), s7 = .int .i64 a ∧ s8 = .int .i64 ((a : Int) + 20) ∧ a ≤ N ∧ Hid (P.length = a) ∧ Hid (StEq key l (P ++ R)) ∧ Hid (FullC key 20 P) ∧ Own w0 wx (slc 129 2 (.slice (some ⟨g, 0, none⟩) N c) N (rows ce (P ++ R)) :: ps)) (fun s7 _ _ => N - (intOf s7).toNat)
    case atStart => exact ⟨0, [], l, rfl, by go_num, by omega, Lib.hid rfl, Lib.hid (StEq.refl _), Lib.hid .nil, by simpa using H⟩
    case round =>
      clear H
      obtain ⟨a, P, R, rfl, rfl, ha, hP, hl, hF, H⟩ := hrel
      have hlen : Hid (P.length + R.length = N) := Lib.hid (by have := hl.out.length; rw [List.length_append] at this; have := HN.out; omega)
      by_cases hab : a + 20 ≤ N
      · obtain ⟨S, R2, hRs, hS⟩ := split_at R 20 (by have := hlen.out; have := hP.out; omega)
        subst hRs
        have e1 : P ++ (S ++ R2) = P ++ S ++ R2 := by simp
        rw [e1] at H
        obtain ⟨bn, hbn⟩ : ∃ bn, bn = a + 20 := ⟨_, rfl⟩
        have hbI : ((a : Int) + 20) = (bn : Int) := by omega
        have hbN : (bn : Int) ≤ (N : Int) := by omega
        have hNl : N = (P ++ S ++ R2).length := by rw [← e1, List.length_append]; exact hlen.out.symm
        have hi := insert_any (p := P) (s := S) (q := R2) (a := a) (b := bn) HC.out (fun v hv => HOK.out v (hl.out.symm.mem (by simp [hv]))) hP.out.symm (by omega) hNl hNb H
        have HI := Lib.hid hi
        have hbn2 : Hid (bn = a + 20) := Lib.hid hbn
        have hb20 : a + 20 ≤ bn := by omega
        have hbN2 : bn ≤ N := by omega
        have HS := Lib.hid hS
        clear hi hbn hNl e1 hab hlen hS
        go_wp2_with fail
        refine HI.out.mono ?_
        rintro e w3 ⟨_, rfl, s', hs', he', H3⟩
        have hsl : s'.length = 20 := by rw [← he'.length]; exact HS.out
        have hl2 : Hid (StEq key l ((P ++ s') ++ R2)) := Lib.hid (hl.out.trans (by
          have := ((StEq.refl (key := key) P).app he').app (StEq.refl R2)
          simpa using this))
        have hF2 : Hid (FullC key 20 (P ++ s')) := Lib.hid (hF.out.snoc hsl hs')
        have hP2 : Hid ((P ++ s').length = bn) := Lib.hid (by rw [List.length_append, hsl, hP.out]; exact hbn2.out.symm)
        clear HI H he' hs' hsl
        go_wp2
        go_roundw
        case rel => exact ⟨bn, P ++ s', R2, by go_num, by go_num, by omega, hP2, hl2, hF2, H3⟩
        case measure => simp [intOf]; omega
      · have hnb : ¬ ((a : Int) + 20 ≤ (N : Int)) := by omega
        go_wp2
        go_meet
        exact ⟨a, P, R, rfl, ha, by omega, hP, hl, hF, H⟩
  case rest =>
    clear H
    obtain ⟨a, P, R, rfl, ha, ha2, hP, hl, hF, H⟩ := hcut
    have hlen : Hid (P.length + R.length = N) := Lib.hid (by have := hl.out.length; rw [List.length_append] at this; have := HN.out; omega)
    have e1 : P ++ R = P ++ R ++ [] := by simp
    rw [e1] at H
    have hNl : N = (P ++ R ++ []).length := by rw [← e1, List.length_append]; exact hlen.out.symm
    have hi := insert_any (p := P) (s := R) (q := []) (a := a) (b := N) HC.out (fun v hv => HOK.out v (hl.out.symm.mem (by simp [hv]))) hP.out.symm (by have := hlen.out; have := hP.out; omega) hNl hNb H
    have HI := Lib.hid hi
    clear hi hNl e1
    go_upto_region 6 with (fail)
    go_wp2_with fail
    refine HI.out.mono ?_
    rintro e w3 ⟨_, rfl, R', hs', he', H3⟩
    have hRl : Hid (R'.length + a = N) := Lib.hid (by rw [← he'.length]; have := hlen.out; have := hP.out; omega)
    have hl2 : Hid (StEq key l (P ++ R')) := Lib.hid (hl.out.trans ((StEq.refl (key := key) P).app he'))
    rw [List.append_nil] at H3
    have HS' := Lib.hid hs'
    clear HI H he' hs' hlen hl
    go_wp2_with fail
    go_loopw [6] (fun s6 wx => ∃ (bs : Nat) (P R : List Coin), s6 = .int .i64 bs ∧ 20 ≤ bs ∧ bs ≤ 2 * N + 20 ∧ Hid (StEq key l (P ++ R)) ∧ Hid (FullC key bs P) ∧ Hid (Srt key R) ∧ Hid (R.length < bs) ∧ Own w0 wx (slc 129 2 (.slice (some ⟨g, 0, none⟩) N c) N (rows ce (P ++ R)) :: ps)) (fun s6 _ => 2 * N + 21 - (intOf s6).toNat)
    case atStart => exact ⟨20, P, R', by go_num, by omega, by omega, hl2, hF, HS', Lib.hid (by have := hRl.out; omega), H3⟩
    case round =>
      clear H3 hl2 hF HS' hRl hP ha ha2
      obtain ⟨bs, P, R, rfl, hb1, hb2, hl, hF, hS, hRb, H⟩ := hrel
      have hlen : Hid (P.length + R.length = N) := Lib.hid (by have := hl.out.length; rw [List.length_append] at this; have := HN.out; omega)
      by_cases hbN : bs < N
      · have hbNI : (bs : Int) < (N : Int) := by omega
        obtain ⟨b2, hb2'⟩ : ∃ b2, b2 = 2 * bs := ⟨_, rfl⟩
        have hb2I : (2 * (bs : Int)) = (b2 : Int) := by omega
        have hb2J : ((bs : Int) * 2) = (b2 : Int) := by omega
        have HB2 := Lib.hid hb2'
        have hb2b : bs + bs ≤ b2 ∧ b2 ≤ bs + bs := ⟨by omega, by omega⟩
        obtain ⟨hb2b1, hb2b2⟩ := hb2b
        clear hb2'
        go_upto_block 4 with (fail)
        go_cut [7] (fun s7 wx => ∃ (a : Nat) (P2 P1 : List Coin), s7 = .int .i64 a ∧ a ≤ N ∧ N < a + b2 ∧ Hid (P2.length = a) ∧ Hid (StEq key l (P2 ++ P1 ++ R)) ∧ Hid (FullC key b2 P2) ∧ Hid (FullC key bs P1) ∧ Own w0 wx (slc 129 2 (.slice (some ⟨g, 0, none⟩) N c) N (rows ce (P2 ++ P1 ++ R)) :: ps))
        case first =>
          go_wp2_with fail
          go_loopw [7, 8] (fun s7 s8 wx => ∃ (a : Nat) (P2 P1 : List Coin), s7 = .int .i64 a ∧ s8 = .int .i64 ((a : Int) + b2) ∧ a ≤ N ∧ Hid (P2.length = a) ∧ Hid (StEq key l (P2 ++ P1 ++ R)) ∧ Hid (FullC key b2 P2) ∧ Hid (FullC key bs P1) ∧ Own w0 wx (slc 129 2 (.slice (some ⟨g, 0, none⟩) N c) N (rows ce (P2 ++ P1 ++ R)) :: ps)) (fun s7 _ _ => N - (intOf s7).toNat)
          case atStart => exact ⟨0, [], P, by go_num, by go_num, by omega, Lib.hid rfl, Lib.hid (by simpa using hl.out), Lib.hid .nil, hF, by simpa using H⟩
          case round =>
            clear H hl hF
            obtain ⟨a, P2, P1, rfl, rfl, ha, hP2, hl, hF2, hF1, H⟩ := hrel
            have hlen2 : Hid (P2.length + P1.length + R.length = N) := Lib.hid (by have := hl.out.length; rw [List.length_append, List.length_append] at this; have := HN.out; omega)
            by_cases hab : a + b2 ≤ N
            · obtain ⟨x, y, r, hP1, hx, hy, hsx, hsy, hFr⟩ := hF1.out.two (by have := hlen2.out; have := hP2.out; have := hRb.out; omega)
              subst hP1
              have e1 : P2 ++ (x ++ y ++ r) ++ R = P2 ++ x ++ y ++ (r ++ R) := by simp
              rw [e1] at H
              obtain ⟨mn, hmn⟩ : ∃ mn, mn = a + bs := ⟨_, rfl⟩
              obtain ⟨bn, hbn⟩ : ∃ bn, bn = a + b2 := ⟨_, rfl⟩
              have hmI : ((a : Int) + (bs : Int)) = (mn : Int) := by omega
              have hbI : ((a : Int) + (b2 : Int)) = (bn : Int) := by omega
              have hbnN : (bn : Int) ≤ (N : Int) := by omega
              have hNl : N = (P2 ++ x ++ y ++ (r ++ R)).length := by rw [← e1]; have := hl.out.length; rw [← this]; exact HN.out
              have hokx : ∀ v ∈ x, ok v := fun v hv => HOK.out v (hl.out.symm.mem (by simp [hv]))
              have hoky : ∀ v ∈ y, ok v := fun v hv => HOK.out v (hl.out.symm.mem (by simp [hv]))
              have hi := sym_any HC.out hNb (x.length + y.length) wr P2 x y (r ++ R) a mn bn (Nat.le_refl _) hokx hoky hsx hsy hP2.out.symm (by omega) (by omega) (by omega) (by omega) hNl H
              have HI := Lib.hid hi
              have HX := Lib.hid (And.intro hx hy)
              have HFr := Lib.hid hFr
              have hbn2 : Hid (bn = a + b2) := Lib.hid hbn
              have hbnN2 : bn ≤ N := by omega
              have habn : a + b2 ≤ bn := by omega
              clear hi hmn hbn hNl e1 hab hokx hoky hsx hsy hx hy hFr hlen2
              go_wp2_with fail
              refine HI.out.mono ?_
              rintro e w4 ⟨_, rfl, z, hz, H4⟩
              have hzl : z.length = b2 := by rw [← hz.2.length, List.length_append, HX.out.1, HX.out.2]; omega
              have hl3 : Hid (StEq key l ((P2 ++ z) ++ r ++ R)) := Lib.hid (hl.out.trans (by
                have := ((StEq.refl (key := key) P2).app hz.2).app (StEq.refl (r ++ R))
                simpa using this))
              have hF3 : Hid (FullC key b2 (P2 ++ z)) := Lib.hid (hF2.out.snoc hzl hz.1)
              have hP3 : Hid ((P2 ++ z).length = bn) := Lib.hid (by rw [List.length_append, hzl, hP2.out]; exact hbn2.out.symm)
              clear HI H hz hzl
              go_wp2
              go_roundw
              case rel => exact ⟨bn, P2 ++ z, r, by go_num, by go_num, by omega, hP3, hl3, hF3, HFr, by simpa using H4⟩
              case measure => simp [intOf]; omega
            · have hnb : ¬ ((a : Int) + (b2 : Int) ≤ (N : Int)) := by omega
              go_wp2
              go_meet
              exact ⟨a, P2, P1, rfl, ha, by omega, hP2, hl, hF2, hF1, H⟩
        case rest =>
          clear H hl hF
          obtain ⟨a, P2, P1, rfl, ha, hab, hP2, hl, hF2, hF1, H⟩ := hcut
          have hlen2 : Hid (P2.length + P1.length + R.length = N) := Lib.hid (by have := hl.out.length; rw [List.length_append, List.length_append] at this; have := HN.out; omega)
          obtain ⟨mn, hmn⟩ : ∃ mn, mn = a + bs := ⟨_, rfl⟩
          have hmI : ((a : Int) + (bs : Int)) = (mn : Int) := by omega
          have HMN := Lib.hid hmn
          have hmn2 : mn ≤ 4 * N + 40 := by omega
          clear hmn
          by_cases hmN : mn < N
          · have hmNI : (mn : Int) < (N : Int) := by omega
            obtain ⟨x, r, hP1, hx, hsx, hFr⟩ := hF1.out.front (by have := hlen2.out; have := hP2.out; have := hRb.out; have := HMN.out; omega)
            have hr0 : r = [] := by
              obtain ⟨q, hq⟩ := hFr.len
              have h1 := hlen2.out; have h2 := hP2.out
              rw [hP1, List.length_append] at h1
              rcases Nat.eq_zero_or_pos q with h | h
              · subst h; exact List.eq_nil_of_length_eq_zero (by omega)
              · have := Nat.mul_le_mul_right bs h; omega
            subst hr0
            rw [List.append_nil] at hP1
            subst hP1
            have e1 : P2 ++ P1 ++ R = P2 ++ P1 ++ R ++ [] := by simp
            rw [e1] at H
            have hNl : N = (P2 ++ P1 ++ R ++ []).length := by rw [← e1]; have := hl.out.length; rw [← this]; exact HN.out
            have hi := sym_any HC.out hNb (P1.length + R.length) wc P2 P1 R [] a mn N (Nat.le_refl _) (fun v hv => HOK.out v (hl.out.symm.mem (by simp [hv]))) (fun v hv => HOK.out v (hl.out.symm.mem (by simp [hv]))) hsx hS.out hP2.out.symm (by have := HMN.out; omega) (by have := hlen2.out; have := hP2.out; have := HMN.out; omega) (by omega) (by have := hlen2.out; have := hP2.out; have := HMN.out; omega) hNl H
            have HI := Lib.hid hi
            clear hi hNl e1 hsx hFr
            go_wp2_with fail
            refine HI.out.mono ?_
            rintro e w4 ⟨_, rfl, z, hz, H4⟩
            have hzl : Hid (z.length < b2) := Lib.hid (by rw [← hz.2.length, List.length_append, hx]; have := hRb.out; omega)
            have hl3 : Hid (StEq key l (P2 ++ z)) := Lib.hid (hl.out.trans (by
              have := (StEq.refl (key := key) P2).app hz.2
              simpa using this))
            have hzs : Hid (Srt key z) := Lib.hid hz.1
            rw [List.append_nil] at H4
            clear HI H hz hx
            go_wp2
            go_roundw
            case rel => exact ⟨b2, P2, z, by go_num, by omega, by omega, hl3, hF2, hzs, hzl, H4⟩
            case measure => simp [intOf]; omega
          · have hmNI : ¬ ((mn : Int) < (N : Int)) := by omega
            have hsrt : Hid (Srt key (P1 ++ R)) := Lib.hid (by
              rcases hF1.out.one (by have := hlen2.out; have := hP2.out; have := HMN.out; omega) (by omega) with h | ⟨h, hs⟩
              · rw [h]; exact hS.out
              · have : R = [] := List.eq_nil_of_length_eq_zero (by have := hlen2.out; have := hP2.out; have := HMN.out; omega)
                rw [this, List.append_nil]; exact hs)
            have hl3 : Hid (StEq key l (P2 ++ (P1 ++ R))) := Lib.hid (by simpa using hl.out)
            have hzl : Hid ((P1 ++ R).length < b2) := Lib.hid (by rw [List.length_append]; have := hlen2.out; have := hP2.out; omega)
            rw [List.append_assoc] at H
            clear hmN
            go_wp2
            go_roundw
            case rel => exact ⟨b2, P2, P1 ++ R, by go_num, by omega, by omega, hl3, hF2, hsrt, hzl, H⟩
            case measure => simp [intOf]; omega
      · have hsrt : Hid (P ++ R = sortF key l) := Lib.hid (by
          refine sortF_unique ?_ hl.out
          rcases hF.out.one (by have := hlen.out; omega) (by omega) with h | ⟨h, hs⟩
          · rw [h]; exact hS.out
          · have : R = [] := List.eq_nil_of_length_eq_zero (by have := hlen.out; omega)
            rw [this, List.append_nil]; exact hs)
        have hnb : ¬ ((bs : Int) < (N : Int)) := by omega
        clear hbN
        go_wp2
        go_end0
        exact ⟨_, rfl, by rw [← hsrt.out]; exact H⟩
end
end SC
end Go.Proofs.Ytpbodonmiepilaa
/- huff: the walks of what compares. -/
namespace Go.Proofs.Ytpbodonmiepilaa
open Go.RowKit

theorem nan_any (a : Int) (w : World) : Calls Try.prog 98 #[.int .i64 a] w fun e w' => e = .returned (.bool false) ∧ w' = w := by
  go_enter Try.func98, Try.ntmps98
  go_wp2
  go_ret
  exact ⟨by simp, rfl⟩
theorem compare_any (a b : Int) (w : World) : Calls Try.prog 85 #[.int .i64 a, .int .i64 b] w fun e w' => e = .returned (.int .i64 (cmpI a b)) ∧ w' = w := by
  go_enter Try.func85, Try.ntmps85
  go_wp2_with fail
  refine (nan_any a w).mono ?_
  rintro e w1 ⟨rfl, rfl⟩
  go_wp2_with fail
  refine (nan_any b _).mono ?_
  rintro e w1 ⟨rfl, rfl⟩
  by_cases h1 : a < b
  · have e : Hid (cmpI a b = -1) := Lib.hid (by simp [cmpI, h1])
    go_wp2
    go_ret
    exact ⟨by rw [e.out]; rfl, rfl⟩
  · by_cases h2 : b < a
    · have e : Hid (cmpI a b = 1) := Lib.hid (by simp [cmpI, h1, h2])
      go_wp2
      go_ret
      exact ⟨by rw [e.out]; rfl, rfl⟩
    · have e : Hid (cmpI a b = 0) := Lib.hid (by simp [cmpI, h1, h2])
      go_wp2
      go_ret
      exact ⟨by rw [e.out]; rfl, rfl⟩

/-- Coins are compared by their weights. -/
theorem lighter_any (w0 : World) (ps : List Piece) (B : Nat) : SC.Cmps w0 ps B (fun _ => True) Coin.w := by
  intro wz row _ x y _ _
  unfold SC.cg SC.ca
  obtain ⟨c, hc⟩ : ∃ c, Hid (cmpI x.w y.w = c) := ⟨_, rfl⟩
  rw [hc.out]
  have H := (Own.start wz).alloc2 (.cells #[.int .i64 x.w, .bool x.pair] 129) (.cells #[.int .i64 y.w, .bool y.pair] 129)
  unfold cval
  go_enter Try.func101, Try.ntmps101
  go_wp2_with fail
  refine (compare_any x.w y.w _).mono ?_
  rintro e w1 ⟨rfl, rfl⟩
  rw [hc.out]
  go_wp2
  go_ret
  exact ⟨_, rfl, rfl, H.bare⟩
end Go.Proofs.Ytpbodonmiepilaa
/- huff: the closure that compares symbols by their frequencies; the sorts. -/
namespace Go.Proofs.Ytpbodonmiepilaa
open Go.RowKit

theorem byfreq_any {w0 : World} {ps : List Piece} {B n : Nat} {F : List Int} {v : Value} (hr : Rd w0 1 v n (nums F)) (hn : n ≤ 1000000) : SI.Cmps w0 (blk B (.cells #[v] 22) :: ps) B (fun x => 0 ≤ x ∧ x < F.length) (frq F) := by
  intro wz row H x y hx hy
  unfold SI.cg SI.ca
  obtain ⟨hx0, hx1⟩ := hx
  obtain ⟨hy0, hy1⟩ := hy
  obtain ⟨i, rfl⟩ : ∃ i : Nat, x = i := ⟨x.toNat, by omega⟩
  obtain ⟨j, rfl⟩ : ∃ j : Nat, y = j := ⟨y.toNat, by omega⟩
  have hl : F.length = n := by have := hr.len; rw [nums_length] at this; omega
  obtain ⟨b, o, cp, rfl, hc1, hc2⟩ := hr.some (by rw [nums_length]; omega)
  have hz := hr.old H
  have gi : F[i]? = some (frq F i) := by
    unfold frq
    rw [List.getElem?_eq_getElem (by omega)]
    simp [List.getD, show i < F.length by omega]
  have gj : F[j]? = some (frq F j) := by
    unfold frq
    rw [List.getElem?_eq_getElem (by omega)]
    simp [List.getD, show j < F.length by omega]
  have r0 := hz.cell (nums_get gi)
  have r1 := hz.cell (nums_get gj)
  generalize frq F i = fi at *
  generalize frq F j = fj at *
  obtain ⟨c, hc⟩ : ∃ c, Hid (cmpI fi fj = c) := ⟨_, rfl⟩
  rw [hc.out]
  have hiI : (i : Int) < (n : Int) := by omega
  have hjI : (j : Int) < (n : Int) := by omega
  have hR : ∀ (ps' : List Piece) (w' : World), Own wz w' ps' → w'.cell? ⟨b, o + i, none⟩ = some (.int .i64 fi) ∧ w'.cell? ⟨b, o + j, none⟩ = some (.int .i64 fj) := fun _ w' h => ⟨(hz.old h).cell (nums_get gi), (hz.old h).cell (nums_get gj)⟩
  have cB := (H.front 1 rfl).cells
  have hB : ∀ (ps' : List Piece) (w' : World), Own wz w' ps' → w'.cell? ⟨B, 0, none⟩ = some (.slice (some ⟨b, o, none⟩) n cp) := fun _ w' h => by
    rw [h.oldCell (cell_lt (by rw [cB]; rfl)), cB]; rfl
  have HR := Lib.hid hR
  have HB := Lib.hid hB
  clear hR hB
  have H1 := Own.start wz
  clear r0 r1 gi gj hr hl hx1 hy1 cB
  go_enter Try.func84, Try.ntmps84
  go_upto_region 1 with (fail)
  refine wp_region_calm (fun w1 => Own wz w1 []) 8 (by kernel_rfl) (by kernel_rfl) H1.drew ?_
  simp only [List.take_succ_cons, List.take_zero, List.drop_succ_cons, List.drop_zero]
  repeat
    first
    | (refine calm_value (v := ?_) (by decide) rfl (fun σ w1 hS => ?_) ?_
       rotate_left
       · have c0 := HB.out _ _ hS; obtain ⟨c1, c2⟩ := HR.out _ _ hS
         first | (go_simp; rfl) | rfl
       simp only [Act.put, List.setIfInBounds_toArray, List.set_cons_zero, List.set_cons_succ])
    | (refine calm_skip (by decide) rfl ?_
       simp only [Act.put, List.setIfInBounds_toArray, List.set_cons_zero, List.set_cons_succ])
  refine calm_nil ?_
  intro wd HD
  go_wp2_with fail
  refine (compare_any fi fj _).mono ?_
  rintro e w1 ⟨rfl, rfl⟩
  rw [hc.out]
  go_wp2
  go_ret
  exact ⟨_, rfl, rfl, HD⟩
end Go.Proofs.Ytpbodonmiepilaa
/- huff: the walks of the sorts, of Clone, row and counted. -/
namespace Go.Proofs.Ytpbodonmiepilaa
open Go.RowKit

theorem coinInfo : (Try.prog.info? 129).map (fun i => (i.zero, i.size, i.bytes)) = some (some (.agg #[.int .i64 0, .bool false]), 2, 16) := by kernel_rfl
theorem rows_ie (l : List Int) : rows SI.ie l = nums l := by
  induction l with
  | nil => rfl
  | cons x t ih => rw [rows_cons, ih]; rfl

/-! ### nil -/
theorem insert_nil (cmp : Value) (w : World) : Calls Try.prog 102 #[.slice none 0 0, .int .i64 0, .int .i64 0, cmp] w (Ret fun _ w' => Own w w' []) := by
  have H := Own.start w
  go_enter Try.func102, Try.ntmps102
  go_wp2_with fail
  go_loop [8] (fun s8 => s8 = .int .i64 1) (fun _ => 0)
  case atStart => go_num
  case round =>
    obtain rfl := hrel
    go_wp2
    go_end0
    exact ⟨_, rfl, H⟩
theorem stable_nil (cmp : Value) (w : World) : Calls Try.prog 97 #[.slice none 0 0, .int .i64 0, cmp] w (Ret fun _ w' => Own w w' []) := by
  have H := Own.start w
  go_enter Try.func97, Try.ntmps97
  go_wp2_with fail
  go_loop [7, 8] (fun s7 s8 => s7 = .int .i64 0 ∧ s8 = .int .i64 20) (fun _ _ => 0)
  case atStart => exact ⟨by go_num, by go_num⟩
  case round =>
    obtain ⟨rfl, rfl⟩ := hrel
    go_wp2_with fail
    refine (insert_nil cmp _).mono ?_
    rintro e w1 ⟨_, rfl, H1⟩
    go_wp2_with fail
    go_loop [6] (fun s6 => s6 = .int .i64 20) (fun _ => 0)
    case atStart => go_num
    case round =>
      obtain rfl := hrel
      go_wp2
      go_end0
      exact ⟨_, rfl, H1⟩
theorem sortnil_any (cmp : Value) (w : World) : Calls Try.prog 83 #[.slice none 0 0, cmp] w (Ret fun _ w' => Own w w' []) := by
  go_enter Try.func83, Try.ntmps83
  go_wp2_with fail
  refine (stable_nil cmp w).mono ?_
  rintro e w1 ⟨_, rfl, H1⟩
  go_wp2
  go_end0
  exact ⟨_, rfl, H1⟩

/-! ### the sorts -/
theorem sortI_any {w0 w : World} {ps : List Piece} {g c N B n : Nat} {l F : List Int} {v : Value} (hr : Rd w0 1 v n (nums F)) (hn : n ≤ 1000000) (hok : ∀ x ∈ l, 0 ≤ x ∧ x < F.length) (hN : N = l.length) (hNb : N ≤ 1000000)
    (H : Own w0 w (slc 3 1 (.slice (some ⟨g, 0, none⟩) N c) N (rows SI.ie l) :: blk B (.cells #[v] 22) :: ps)) :
    Calls Try.prog 83 #[.slice (some ⟨g, 0, none⟩) N c, SI.cf B] w (Ret fun _ w' => Own w0 w' (slc 3 1 (.slice (some ⟨g, 0, none⟩) N c) N (rows SI.ie (sortF (frq F) l)) :: blk B (.cells #[v] 22) :: ps)) := by
  have HS := Lib.hid (SI.stable_any (byfreq_any hr hn) hok hN hNb H)
  clear hr hok H hN
  go_enter Try.func83, Try.ntmps83
  go_wp2_with fail
  refine HS.out.mono ?_
  rintro e w1 ⟨_, rfl, H1⟩
  go_wp2
  go_end0
  exact ⟨_, rfl, H1⟩
theorem sortC_any {w0 w : World} {ps : List Piece} {g c N : Nat} {l : List Coin} (hN : N = l.length) (hNb : N ≤ 1000000)
    (H : Own w0 w (slc 129 2 (.slice (some ⟨g, 0, none⟩) N c) N (rows ce l) :: ps)) :
    Calls Try.prog 100 #[.slice (some ⟨g, 0, none⟩) N c, SC.cf 0] w (Ret fun _ w' => Own w0 w' (slc 129 2 (.slice (some ⟨g, 0, none⟩) N c) N (rows ce (sortF Coin.w l)) :: ps)) := by
  have HS := Lib.hid (SC.stable_any (B := 0) (lighter_any w0 ps 0) (fun _ _ => trivial) hN hNb H)
  clear H hN
  go_enter Try.func100, Try.ntmps100
  go_wp2_with fail
  refine HS.out.mono ?_
  rintro e w1 ⟨_, rfl, H1⟩
  go_wp2
  go_end0
  exact ⟨_, rfl, H1⟩

theorem rows_ce_one (l : List Coin) : ∀ u ∈ rows ce l, u.oneCell' = true := by
  intro u hu
  obtain ⟨x, _, hx⟩ := List.mem_flatMap.1 hu
  exact SC.e_one x u hx
/-- A copy. -/
theorem clone_any {w : World} {v : Value} {n : Nat} {l : List Coin} (hr : Rd w 2 v n (rows ce l)) (hl : 0 < l.length) (hn : n ≤ 1000000) :
    Calls Try.prog 99 #[v] w (Ret fun r w' => Own w w' [slc 129 2 r n (rows ce l)]) := by
  have hlen : 0 < (rows ce l).length := by rw [rows_length ce SC.e_length]; omega
  obtain ⟨b, o, c, rfl, hc1, hc2⟩ := hr.some hlen
  have H := (Own.start w).made [] 129 2 0 (by simp) (by simp [maxLen])
  have hr2 := hr.old H
  have h1 := rows_ce_one l
  generalize rows ce l = xs at *
  have HR := Lib.hid hr2
  have H1 := Lib.hid h1
  clear hr hr2 h1 hlen
  have hnil : ∀ W, (binOp .eql 127 (.slice (some ⟨b, o, none⟩) n c) (.slice none 0 0)).run Try.prog W = .ok (.bool false) W := fun W => Lib.run_eql_slice_some_nil W _ _ _ Try.underlying127
  go_enter Try.func99, Try.ntmps99
  go_wp2_with (at_builtin; refine wpList_append_sep rfl _ _ rfl Try.underlying127 coinInfo rfl (by decide) rfl H HR.out H1.out (by omega) (by omega) ?_; clear H; intro v' w' H)
  go_ret
  refine ⟨_, rfl, ?_⟩
  simpa using H

theorem rows_pair_cells (a b : Coin) (t : List Coin) : rows ce (a :: b :: t) = [.int .i64 a.w, .bool a.pair, .int .i64 b.w, .bool b.pair] ++ rows ce t := rfl
/-- Two elements on. -/
theorem rd_tail2 {w : World} {b o cap n : Nat} {c1 c2 : Coin} {t : List Coin} (h : Rd w 2 (.slice (some ⟨b, o, none⟩) (n + 2) cap) (n + 2) (rows ce (c1 :: c2 :: t))) :
    Rd w 2 (.slice (if cap = 2 then some ⟨b, o, none⟩ else some ⟨b, o + 4, none⟩) n (cap - 2)) n (rows ce t) := by
  have h1 := h.tail (k := 2) (by omega)
  by_cases hc : cap = 2
  · subst hc
    obtain ⟨hl, a, c, e, hle, _⟩ := h
    cases e
    have hn : n = 0 := by omega
    subst hn
    have hx : rows ce t = [] := by
      refine List.eq_nil_of_length_eq_zero ?_
      rw [rows_pair_cells, List.length_append] at hl
      simp at hl
      simpa using hl
    rw [hx]
    exact ⟨by simp, _, _, rfl, by omega, by simp [maxLen], by simp, fun ad _ j u hu => by simp at hu⟩
  · have e : (rows ce (c1 :: c2 :: t)).drop (2 * 2) = rows ce t := by rw [rows_drop ce SC.e_length]; rfl
    rw [e] at h1
    simpa [hc, Addr.add] using h1

set_option maxRecDepth 100000 in
set_option maxHeartbeats 1600000 in
/-- A row. -/
theorem row_any {w : World} {v u : Value} {n m : Nat} {base A : List Coin} (hr : Rd w 2 v n (rows ce base)) (hu : Rd w 2 u m (rows ce A)) (hl : 0 < base.length) (hn : n ≤ 1000) (hm : m ≤ 1000)
    (hA : ∀ c ∈ A, 0 ≤ c.w ∧ c.w ≤ 1000000000000000000) :
    Calls Try.prog 86 #[v, u] w (Ret fun r w' => Own w w' [slc 129 2 r (rowF base A).length (rows ce (rowF base A))]) := by
  have HC := Lib.hid (clone_any hr hl (by omega))
  have hbn : Hid (base.length = n) := Lib.hid (by have := hr.len; rw [rows_length ce SC.e_length] at this; omega)
  have hlm : A.length = m := by have := hu.len; rw [rows_length ce SC.e_length] at this; omega
  clear hr
  have HL := Lib.hid hl
  clear hl
  go_enter Try.func86, Try.ntmps86
  go_wp2_with fail
  refine HC.out.mono ?_
  rintro e w1 ⟨r, rfl, H⟩
  clear HC
  have HU := Lib.hid hu
  have HA := Lib.hid hA
  obtain ⟨M, hP⟩ : ∃ M, Hid (base ++ pairsF A = M) := ⟨_, rfl⟩
  have hPM := hP
  have hn2 : n + m / 2 ≤ 2000 := by omega
  go_wp2_with fail
  clear hu hA
  go_loopw [1, 5] (fun s1 s5 wx => ∃ (k q : Nat) (B P : List Coin), Hid (Rd w 2 s1 k (rows ce B)) ∧ Hid (B.length = k) ∧ k ≤ 1000 ∧ q + k / 2 ≤ 2000 ∧ Hid (P ++ pairsF B = M) ∧ Hid (∀ c ∈ B, 0 ≤ c.w ∧ c.w ≤ 1000000000000000000) ∧ Hid (P.length = q) ∧ Own w wx [slc 129 2 s5 q (rows ce P)]) (fun s1 _ _ => sliceLen s1)
  case atStart => exact ⟨m, n, A, base, HU, Lib.hid hlm, hm, hn2, hP, HA, hbn, H⟩
  case round =>
    clear H HU HA hP hn2 hn hm hlm hbn
    obtain ⟨k, q, B, P, HU, hB, hk, hq, hP, HA, hPl, H⟩ := hrel
    by_cases h2 : 2 ≤ k
    · obtain ⟨c1, c2, t, rfl⟩ : ∃ (c1 c2 : Coin) (t : List Coin), B = c1 :: c2 :: t := by
        match B, hB.out with
        | [], h => simp at h; omega
        | [_], h => simp at h; omega
        | c1 :: c2 :: t, _ => exact ⟨c1, c2, t, rfl⟩
      obtain ⟨k, rfl⟩ : ∃ k', k = k' + 2 := ⟨k - 2, by omega⟩
      have hu := HU.out
      obtain ⟨b, o, c, rfl, hc1, hc2⟩ := hu.some (by rw [rows_length ce SC.e_length]; simp)
      have g1 : ∀ (ps' : List Piece) (w' : World), Own w w' ps' → w'.cell? ⟨b, o, none⟩ = some (.int .i64 c1.w) ∧ w'.cell? ⟨b, o + 2, none⟩ = some (.int .i64 c2.w) := fun _ w' h => by
        have h := hu.old h
        exact And.intro (h.cell (j := 0) rfl) (h.cell (j := 2) rfl)
      have G1 := Lib.hid g1
      have HU2 := Lib.hid (rd_tail2 hu)
      have hB2 : Hid (t.length = k) := Lib.hid (by have := hB.out; simp at this; omega)
      have HA2 : Hid (∀ c ∈ t, 0 ≤ c.w ∧ c.w ≤ 1000000000000000000) := Lib.hid (fun c hc => HA.out c (by simp [hc]))
      have hP2 : Hid ((P ++ [(⟨c1.w + c2.w, true⟩ : Coin)]) ++ pairsF t = M) := Lib.hid (by rw [← hP.out, pairsF, List.append_assoc]; rfl)
      have hPl2 : Hid ((P ++ [(⟨c1.w + c2.w, true⟩ : Coin)]).length = q + 1) := Lib.hid (by rw [List.length_append, hPl.out]; rfl)
      have b1 := HA.out c1 (by simp)
      have b2 := HA.out c2 (by simp)
      have hrow0 : rows ce P ++ ce ⟨c1.w + c2.w, true⟩ = rows ce (P ++ [⟨c1.w + c2.w, true⟩]) := by rw [rows_append, rows_one]
      have HR0 := Lib.hid hrow0
      clear hu g1 HU hB HA hP hPl hrow0
      generalize c1.w = x1 at *
      generalize c2.w = x2 at *
      obtain ⟨s, hs⟩ : ∃ s, Hid (x1 + x2 = s) := ⟨_, rfl⟩
      have hsw : IntKind.i64.wrap (x1 + x2) = s := by rw [← hs.out]; exact IntWalk.i64_in _ ⟨by omega, by omega⟩
      rw [hs.out] at hP2 hPl2 HR0
      have hcc : ((k : Int) + 2 ≤ (c : Int)) := by omega
      have hk0 : (0 : Int) < (k : Int) + 2 := by omega
      have hk1 : (1 : Int) < (k : Int) + 2 := by omega
      go_upto_region 4 with (fail)
      refine wp_region_new (fun σ w1 => Own w w1 (newR (.cells #[.int .i64 s, .bool true] 129) 1 (σ 11) ++ (slc 129 2 u5 q (rows ce P) :: []))) 12 [11] (by kernel_rfl) (by kernel_rfl) H.drew ?_
      simp only [List.take_succ_cons, List.take_zero, List.drop_succ_cons, List.drop_zero]
      repeat
        first
        | (refine calm_value (v := ?_) (by decide) rfl (fun σ w1 hS => ?_) ?_
           rotate_left
           · obtain ⟨c0, c1⟩ := G1.out _ _ hS
             first | (go_simp; rfl) | rfl
           simp only [Act.put, List.setIfInBounds_toArray, List.set_cons_zero, List.set_cons_succ])
        | (refine calm_skip (by decide) rfl ?_
           simp only [Act.put, List.setIfInBounds_toArray, List.set_cons_zero, List.set_cons_succ])
      refine calm_row (by decide) (fun w1 => (by go_simp)) ?_
      refine calm_nil ?_
      intro σ wd hσ HD
      obtain ⟨vn, hvn⟩ := Option.isSome_iff_exists.1 (hσ 11 (by decide))
      rw [hvn] at HD
      obtain ⟨g2, rfl, HN⟩ := HD.newr
      clear HD H
      simp only [putNew, List.foldl_cons, List.foldl_nil, hvn]
      simp only [Act.put, List.setIfInBounds_toArray, List.set_cons_zero, List.set_cons_succ, List.getElem?_cons_succ, List.getElem?_cons_zero, Option.bind_some, Option.getD_some]
      have hrow := (HN.slc_mk (xs := ce ⟨s, true⟩) (n := 1) (size := 2) rfl (Nat.le_refl _) (by decide) rfl rfl).rd
      have H := HN.drop
      clear HN
      go_wp2_with (at_builtin; refine wpList_append_sep rfl _ _ rfl Try.underlying127 coinInfo rfl (by decide) rfl H hrow (SC.e_one _) (by omega) (by omega) ?_; clear H hrow; intro v' w' H; rw [HR0.out] at H)
      go_roundw
      case rel => exact ⟨k, q + 1, t, P ++ [⟨s, true⟩], HU2, hB2, by omega, by omega, hP2, HA2, hPl2, H⟩
      case measure => simp [sliceLen]
    · have hB0 : pairsF B = [] := List.eq_nil_of_length_eq_zero (by rw [pairsF_length, hB.out]; omega)
      have hPM2 : P = M := by rw [← hP.out, hB0, List.append_nil]
      subst hPM2
      have hq1 : 0 < q := by rw [← hPl.out, ← hPM.out, List.length_append]; have := HL.out; omega
      obtain ⟨a, cp, rfl, hc1, hc2⟩ := HU.out.shape
      obtain ⟨g, c, rfl, hd1, hd2, _⟩ := H.at (by rw [rows_length ce SC.e_length, hPl.out]; omega)
      have HS := Lib.hid (sortC_any hPl.out.symm (by omega) H)
      have hkI : ¬ (2 : Int) ≤ (k : Int) := by omega
      have hR : Hid (sortF Coin.w P = rowF base A) := Lib.hid (by rw [← hPM.out]; rfl)
      have hRl : Hid ((rowF base A).length = q) := Lib.hid (by rw [← hR.out, ← (sortF_law P).2.length, hPl.out])
      clear HU hB hB0 hP HA hPl H HL hPM h2
      go_wp2_with fail
      refine HS.out.mono ?_
      rintro e w2 ⟨_, rfl, H2⟩
      rw [hR.out] at H2
      go_wp2
      go_ret
      exact ⟨_, rfl, by rw [hRl.out]; exact H2⟩

set_option maxHeartbeats 800000 in
/-- How many pairs are among the first so many. -/
theorem counted_any {w : World} {v : Value} {n k : Nat} {l : List Coin} (hr : Rd w 2 v n (rows ce l)) (hn : n ≤ 1000000) (hk : k ≤ n) :
    Calls Try.prog 87 #[v, .int .i64 k] w (Ret fun r w' => r = .tuple #[.int .i64 ((k - npF l k : Nat) : Int), .int .i64 (npF l k)] ∧ Own w w' []) := by
  have hln : l.length = n := by have := hr.len; rw [rows_length ce SC.e_length] at this; omega
  have hle := npF_le l k
  obtain ⟨Z, hZ⟩ : ∃ Z, Hid (npF l k = Z) := ⟨_, rfl⟩
  rw [hZ.out] at hle ⊢
  obtain ⟨a, c, rfl, hc1, hc2⟩ := hr.shape
  have HR := Lib.hid hr
  have hl := Lib.hid hln
  have H := Own.start w
  clear hr hln
  go_enter Try.func87, Try.ntmps87
  go_wp2_with fail
  go_loopw [6, 13] (fun s6 s13 wx => ∃ i : Nat, s13 = .int .i64 i ∧ i ≤ k ∧ s6 = .int .i64 (npF l i) ∧ Own w wx []) (fun _ s13 _ => k - (intOf s13).toNat)
  case atStart => exact ⟨0, by go_num, by omega, by simp [npF], H⟩
  case round =>
    clear H
    obtain ⟨i, rfl, hi, rfl, H⟩ := hrel
    have hpl := npF_le l i
    by_cases hlt : i < k
    · obtain ⟨x, hx⟩ := get_of_lt (l := l) (k := i) (by have := hl.out; omega)
      have hp : npF l (i + 1) = npF l i + if x.pair then 1 else 0 := by
        unfold npF
        rw [List.take_add_one, hx, List.countP_append]
        simp
      obtain ⟨y, hy⟩ : ∃ y, Hid (npF l i = y) := ⟨_, rfl⟩
      have HP := Lib.hid hp
      have hr := HR.out
      obtain ⟨b, o, c', he, _⟩ := hr.some (by rw [rows_length ce SC.e_length]; have := hl.out; omega)
      cases he
      have hr2 := (HR.out.old H)
      have g0 : wr.cell? ⟨b, o + i * 2, none⟩ = some (.int .i64 x.w) := by
        have := hr2.cell ((rows_get ce SC.e_length hx 0 (by omega)).trans rfl)
        simpa using this
      have g1 : wr.cell? ⟨b, o + (i * 2 + 1), none⟩ = some (.bool x.pair) := hr2.cell ((rows_get ce SC.e_length hx 1 (by omega)).trans rfl)
      have g2 : wr.cell? ⟨b, o + i * 2 + 1, none⟩ = some (.bool x.pair) := g1
      have hI : (i : Int) < (k : Int) := by omega
      clear hp hr hr2 hx
      obtain ⟨xw, xp⟩ := x
      simp only at g0 g1 g2 HP
      obtain ⟨gc, hgc⟩ : ∃ gc, Hid (wr.heap.size = gc) := ⟨_, rfl⟩
      rw [hy.out] at HP hpl ⊢
      cases xp
      all_goals
        go_wp2_with (refine wpList_store_agg rfl _ _ rfl rfl (H.alloc _) rfl (by kernel_rfl) (by simp) (by simp; exact ⟨rfl, rfl⟩) rfl ?_; clear H; intro w5 H; rw [hgc.out] at H ⊢; have c0 := H.cells)
        go_roundw
        case rel => exact ⟨i + 1, by go_num, by omega, by rw [HP.out]; simp, H.bare⟩
        case measure => simp [intOf]; omega
    · obtain rfl : i = k := by omega
      have hz := hZ.out
      rw [hz] at hpl ⊢
      have hw : IntKind.i64.wrap ((i : Int) - (Z : Int)) = ((i - Z : Nat) : Int) := by rw [IntWalk.i64_in _ ⟨by omega, by omega⟩]; omega
      clear hz
      go_wp2
      go_ret2
      exact ⟨_, rfl, rfl, H⟩
end Go.Proofs.Ytpbodonmiepilaa
/- huff: the walks of what may not be counted. -/
namespace Go.Proofs.Ytpbodonmiepilaa
open Go.RowKit

/-- The first that may not be, from the i-th on. -/
theorem bad_any (f : Int) (w : World) : Calls Try.prog 81 #[.int .i64 f] w fun e w' => e = .returned (.bool (badF f)) ∧ w' = w := by
  obtain ⟨b, hb⟩ : ∃ b, Hid (badF f = b) := ⟨_, rfl⟩
  rw [hb.out]
  go_enter Try.func81, Try.ntmps81
  by_cases h1 : f < 0
  · have e : Hid (b = true) := Lib.hid (by rw [← hb.out]; simp [badF, h1])
    go_wp2
    go_ret
    exact ⟨by rw [e.out]; rfl, rfl⟩
  · by_cases h2 : 4294967296 < f
    · have e : Hid (b = true) := Lib.hid (by rw [← hb.out]; simp [badF, h2])
      go_wp2
      go_ret
      exact ⟨by rw [e.out]; rfl, rfl⟩
    · have e : Hid (b = false) := Lib.hid (by rw [← hb.out]; simp [badF]; omega)
      go_wp2
      go_ret
      exact ⟨by rw [e.out]; rfl, rfl⟩


theorem index_any {w : World} {v : Value} {n : Nat} {F : List Int} (hr : Rd w 1 v n (nums F)) (hn : n ≤ 1000000) :
    Calls Try.prog 96 #[v, .func (.func 81) #[] #[]] w (Ret fun r w' => (∃ x : Int, r = .int .i64 x ∧ (0 ≤ x ↔ anyBad F = true) ∧ -1 ≤ x ∧ x ≤ 1000000) ∧ Own w w' []) := by
  have hl : F.length = n := by have := hr.len; rw [nums_length] at this; omega
  obtain ⟨a, c, rfl, hc1, hc2⟩ := hr.shape
  have HR := Lib.hid hr
  have HL := Lib.hid hl
  have H := Own.start w
  clear hr hl
  go_enter Try.func96, Try.ntmps96
  go_wp2_with fail
  go_loopw [8] (fun s8 wx => ∃ i : Nat, s8 = .int .i64 i ∧ i ≤ n ∧ Hid (∀ j, j < i → badF (F.getD j 0) = false) ∧ Own w wx []) (fun s8 _ => n - (intOf s8).toNat)
  case atStart => exact ⟨0, by go_num, by omega, Lib.hid (fun j h => by omega), H⟩
  case round =>
    clear H
    obtain ⟨i, rfl, hi, hno, H⟩ := hrel
    by_cases hlt : i < n
    · obtain ⟨b, o, rfl, c0⟩ := rd_num HR.out H (by have := HL.out; omega : i < F.length) rfl
      obtain ⟨x, hx⟩ : ∃ x, Hid (F.getD i 0 = x) := ⟨_, rfl⟩
      rw [hx.out] at c0
      have hI : (i : Int) < (n : Int) := by omega
      obtain ⟨bx, hbx⟩ : ∃ bx, Hid (badF x = bx) := ⟨_, rfl⟩
      go_wp2_with fail
      refine (bad_any x _).mono ?_
      rintro e w1 ⟨rfl, rfl⟩
      rw [hbx.out]
      cases bx with
      | true =>
        go_wp2
        go_ret
        refine ⟨_, rfl, ⟨_, rfl, ?_, by omega, by omega⟩, H⟩
        constructor
        · intro _
          unfold anyBad
          rw [List.any_eq_true]
          refine ⟨x, ?_, hbx.out⟩
          have hl := HL.out
          rw [← hx.out, List.getD_eq_getElem?_getD, List.getElem?_eq_getElem (by omega)]
          exact List.getElem_mem _
        · intro _; omega
      | false =>
        go_wp2_with fail
        go_roundw
        case rel => exact ⟨i + 1, by go_num, by omega, Lib.hid (fun j h => by
          rcases Nat.lt_or_ge j i with h1 | h1
          · exact hno.out j h1
          · have : j = i := by omega
            subst this; rw [hx.out]; exact hbx.out), H⟩
        case measure => simp [intOf]; omega
    · have hI : ¬ (i : Int) < (n : Int) := by omega
      go_wp2
      go_ret
      refine ⟨_, rfl, ⟨_, rfl, ?_, by omega, by omega⟩, H⟩
      constructor
      · intro h; omega
      · intro h
        exfalso
        unfold anyBad at h
        rw [List.any_eq_true] at h
        obtain ⟨x, hx, hb⟩ := h
        obtain ⟨j, hj, rfl⟩ := List.getElem_of_mem hx
        have hl := HL.out
        have := hno.out j (by omega)
        rw [List.getD_eq_getElem?_getD, List.getElem?_eq_getElem hj] at this
        simp only [Option.getD_some] at this
        rw [this] at hb
        cases hb
theorem contains_any {w : World} {v : Value} {n : Nat} {F : List Int} (hr : Rd w 1 v n (nums F)) (hn : n ≤ 1000000) :
    Calls Try.prog 82 #[v, .func (.func 81) #[] #[]] w (Ret fun r w' => r = .bool (anyBad F) ∧ Own w w' []) := by
  have HI := Lib.hid (index_any hr hn)
  obtain ⟨b, hb⟩ : ∃ b, Hid (anyBad F = b) := ⟨_, rfl⟩
  rw [hb.out]
  clear hr
  go_enter Try.func82, Try.ntmps82
  go_wp2_with fail
  refine HI.out.mono ?_
  rintro e w1 ⟨_, rfl, ⟨x, rfl, hx, hx1, hx2⟩, H1⟩
  rw [hb.out] at hx
  by_cases h0 : 0 ≤ x
  · have e := hx.1 h0
    subst e
    clear hx
    go_wp2
    go_ret
    exact ⟨_, rfl, rfl, H1⟩
  · have e : b = false := by cases b <;> simp_all
    subst e
    have e2 : Hid (decide (0 ≤ x) = false) := Lib.hid (by simp; omega)
    clear hx
    go_wp2
    go_ret
    exact ⟨_, rfl, by show Value.bool (decide (0 ≤ x)) = _; rw [e2.out], H1⟩
end Go.Proofs.Ytpbodonmiepilaa
