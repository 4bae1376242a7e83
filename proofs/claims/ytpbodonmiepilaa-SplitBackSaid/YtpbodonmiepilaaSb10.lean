/-
  Texts of this claim, one behind the other: split; split; split.
-/
import Derived.Test.YtpbodonmiepilaaSb9
set_option linter.unusedVariables false
/- split: the walk of SplitWith. -/
namespace Go.Proofs.Ytpbodonmiepilaa
open Go.RowKit

/-- The document's error. -/
def wantF (right falls : Bool) (f : Int) : Int := if !right || (f == 0 && falls) then 1 else f
def rightF (N : Nat) (cs ks : List Int) : Bool := decide (0 < cs.length) && (decide (cs.length = ks.length) && decide (cs.getD (cs.length - 1) 0 = N))
def resE : Res → Int
  | .err e => e
  | .ok _ => 0
def resT : Res → ByteArray
  | .err _ => ⟨#[]⟩
  | .ok out => strOfNums out
theorem resVal_eq (r : Res) : resVal r = .tuple #[.string (resT r), .int .i64 (resE r)] := by cases r <;> rfl
/-- What With answers, said as the law says it. -/
structure WithOk (T : List Tok) (cs ks : List Int) (t : ByteArray) (e : Int) : Prop where
  val : withV T cs ks = .tuple #[.string t, .int .i64 e]
  err : e = wantF (rightF T.length cs ks) (wfalls T.length (cs.zip ks) 0) (resE (exp 2147483648 T []))
  none : e ≠ 0 → t = ⟨#[]⟩
  some : e = 0 → t.size ≤ 1000000 ∧ (resT (exp 2147483648 T [])).size ≤ 1000000 ∧ ∀ u n g, InfRes (textBits t) (max ((resT (exp 2147483648 T [])).size : Int) 0) u n g → u = resT (exp 2147483648 T []) ∧ n = t.size ∧ g = 0
theorem zip_last {cs ks : List Int} (h : cs.length = ks.length) : ∀ p, (cs.zip ks).getLast? = .some p → p.1 = cs.getD (cs.length - 1) 0 := by
  intro p hp
  rw [List.getLast?_eq_getElem?, List.length_zip, ← h, Nat.min_self, List.getElem?_zip_eq_some] at hp
  rw [List.getD_eq_getElem?_getD, hp.1]
  rfl
theorem with_ok (T : List Tok) (cs ks : List Int) (hT : T.length ≤ 3000) (hc : cs.length ≤ 20) : ∃ t e, WithOk T cs ks t e := by
  by_cases hA : cs.length = 0 ∨ cs.length ≠ ks.length ∨ cs.getD (cs.length - 1) 0 ≠ T.length
  · have hr : rightF T.length cs ks = false := by
      unfold rightF
      rcases hA with h | h | h
      · simp [h]
      · simp [h]
      · rw [show decide (cs.getD (cs.length - 1) 0 = (T.length : Int)) = false from decide_eq_false h]; simp
    refine ⟨⟨#[]⟩, 1, by unfold withV; rw [if_pos hA], by unfold wantF; rw [hr]; rfl, fun _ => rfl, fun h => absurd h (by decide)⟩
  have hr : rightF T.length cs ks = true := by
    unfold rightF
    have h1 : 0 < cs.length := by omega
    have h2 : cs.length = ks.length := by omega
    have h3 : cs.getD (cs.length - 1) 0 = T.length := Decidable.not_not.1 fun hh => hA (.inr (.inr hh))
    simp only [decide_eq_true h1, decide_eq_true h2, decide_eq_true h3, Bool.and_true]
  have h1 : 0 < cs.length := by omega
  have h2 : cs.length = ks.length := by omega
  have h3 : cs.getD (cs.length - 1) 0 = T.length := Decidable.not_not.1 fun hh => hA (.inr (.inr hh))
  cases hx : exp 2147483648 T [] with
  | err e0 =>
    refine ⟨⟨#[]⟩, e0, by unfold withV; rw [if_neg hA, hx], ?_, fun _ => rfl, fun h => ?_⟩
    · unfold wantF
      rw [hr, hx]
      have : ((e0 : Int) == 0) = false := by rcases exp_err2 T [] e0 hx with h | h <;> simp [h]
      simp only [resE, this]
      rfl
    · rcases exp_err2 T [] e0 hx with h' | h' <;> omega
  | ok out =>
    obtain ⟨hlen, hok⟩ := exp_len T [] out hx
    simp only [List.length_nil, Nat.zero_add] at hlen
    have htight := (exp_tight (m := 2147483648) (M := (out.length : Int)) (by omega) (by omega) T [] out hx (by simp) (Int.le_refl _)).1
    have hfn := wloop_falls T (cs.zip ks) 0 []
    cases hw : wloop T (cs.zip ks) 0 [] with
    | none =>
      rw [hw] at hfn
      refine ⟨⟨#[]⟩, 1, by unfold withV; rw [if_neg hA, hx, hw]; rfl, ?_, fun _ => rfl, fun h => absurd h (by decide)⟩
      unfold wantF
      rw [hr, hx, ← show (Option.none : Option (List Bool)).isNone = wfalls T.length (cs.zip ks) 0 from hfn]
      rfl
    | some R =>
      rw [hw] at hfn
      have hne : cs.zip ks ≠ [] := fun hh => by have := congrArg List.length hh; rw [List.length_zip, List.length_nil] at this; omega
      obtain ⟨hunp, hsz⟩ := wloop_unp (most := out.length) (fin := out) hok (by omega) (by omega) htight (cs.zip ks) 0 [] R (by omega) hne (fun p hp => by rw [zip_last h2 p hp]; exact h3) (pre_nil (Int.natCast_nonneg _)) hw
      have hzl : (cs.zip ks).length ≤ 20 := by rw [List.length_zip]; omega
      have hR : R.length ≤ 4000000 := by
        have := Nat.mul_le_mul hzl (show 48 * T.length + 15000 ≤ 159000 by omega)
        simp only [List.length_nil] at hsz
        omega
      refine ⟨textOf R, 0, by unfold withV; rw [if_neg hA, hx, hw]; rfl, ?_, fun h => absurd rfl h, fun _ => ⟨by rw [textOf_size]; unfold nbytes; omega, by rw [hx]; unfold resT; rw [strOfNums_size]; omega, fun u n g h => ?_⟩⟩
      · unfold wantF
        rw [hr, hx, ← show (Option.some R).isNone = wfalls T.length (cs.zip ks) 0 from hfn]
        rfl
      · rw [hx] at h ⊢
        simp only [resT] at h ⊢
        rw [strOfNums_size, Int.max_eq_left (by omega)] at h
        have hi := infl_text (behind := ByteArray.empty) rfl hunp
        rw [ByteArray.append_empty] at hi
        unfold InfRes at h
        rw [hi] at h
        obtain ⟨g1, g2, g3⟩ := h
        exact ⟨g1, by rw [g2, textOf_size], g3⟩
set_option maxRecDepth 100000 in
set_option maxHeartbeats 6400000 in
theorem lawwith_any {w : World} {tv cv kv : Value} {T0 : List Tok} {cs ks : List Int} (ht : Rd w 3 tv T0.length (rows tcell T0)) (hc : Rd w 1 cv cs.length (nums cs)) (hk : Rd w 1 kv ks.length (nums ks)) :
    Calls Try.prog 5 #[tv, cv, kv] w (Ret fun r w' => r = .bool true ∧ Own w w' []) := by
  obtain ⟨ta, tc, rfl, htc1, htc2⟩ := ht.shape
  obtain ⟨ca, cc, rfl, hcc1, hcc2⟩ := hc.shape
  obtain ⟨ka, kc, rfl, hkc1, hkc2⟩ := hk.shape
  have KA := Lib.hid awake47_any
  have H := Own.start w
  go_enter Try.func5, Try.ntmps5
  go_upto_if 21 with (fail)
  go_cut [0] (fun v0 wx => Own w wx [] ∧ ∃ (T : List Tok) (tc' : Nat), v0 = .slice ta T.length tc' ∧ T.length ≤ 300 ∧ Hid (Rd w 3 (.slice ta T.length tc') T.length (rows tcell T)))
  case first =>
    obtain ⟨N, hN⟩ : ∃ N, Hid (T0.length = N) := ⟨_, rfl⟩
    rw [hN.out] at ht htc1
    replace ht := Lib.hid ht
    rw [hN.out]
    by_cases h : 300 < N
    · have hI : (300 : Int) < (N : Int) := by omega
      have hI2 : (300 : Int) ≤ (tc : Int) := by omega
      have htk := ht.out.take (k := 300) (by omega)
      rw [rows_take tcell tcell_length] at htk
      have hl : (T0.take 300).length = 300 := by rw [List.length_take, hN.out]; omega
      have hfin : Hid (∃ (T : List Tok) (tc' : Nat), Value.slice ta 300 tc = .slice ta T.length tc' ∧ T.length ≤ 300 ∧ Hid (Rd w 3 (.slice ta T.length tc') T.length (rows tcell T))) := Lib.hid ⟨T0.take 300, tc, by rw [hl], by omega, Lib.hid (by rw [hl]; exact htk)⟩
      obtain ⟨b, o, c', e0, -⟩ := ht.out.some (by rw [rows_length tcell tcell_length, hN.out]; omega)
      cases e0
      clear htk hl h
      go_wp2
      go_meet
      exact ⟨H, hfin.out⟩
    · have hI : ¬ (300 : Int) < (N : Int) := by omega
      go_wp2
      go_meet
      exact ⟨H, T0, tc, by rw [hN.out], by rw [hN.out]; omega, Lib.hid (by rw [hN.out]; exact ht.out)⟩
  case rest =>
  clear ht htc1 htc2 H
  obtain ⟨H, T, tc', rfl, hT, hr⟩ := hcut
  obtain ⟨t, e, W⟩ : ∃ t e, cs.length ≤ 20 → WithOk T cs ks t e := by
    by_cases h : cs.length ≤ 20
    · obtain ⟨t, e, h'⟩ := with_ok T cs ks (by omega) h
      exact ⟨t, e, fun _ => h'⟩
    · exact ⟨⟨#[]⟩, 0, fun h' => absurd h' h⟩
  have kw : cs.length ≤ 20 → ks.length ≤ 20 → Calls Try.prog 14 #[.slice ta T.length tc', .slice ca cs.length cc, .slice ka ks.length kc] wc (Ret fun r w' => r = .tuple #[.string t, .int .i64 e] ∧ Own wc w' []) := fun h1 h2 => by
    have h3 := with_any (hr.out.old H) (hc.old H) (hk.old H) (by omega) (by omega) (by omega)
    rw [(W h1).val] at h3
    exact h3
  replace kw := Lib.hid kw
  have hrw := hr.out
  obtain ⟨N, hN⟩ : ∃ N, Hid (T.length = N) := ⟨_, rfl⟩
  obtain ⟨Lc, hLc⟩ : ∃ N, Hid (cs.length = N) := ⟨_, rfl⟩
  obtain ⟨Lk, hLk⟩ : ∃ N, Hid (ks.length = N) := ⟨_, rfl⟩
  have kx := fun (w' : World) (h : Own w w' []) => refexpand_any (w := w') T 2147483648 (hrw.old h) (by omega)
  rw [resVal_eq] at kx
  obtain ⟨f, hf⟩ : ∃ f, Hid (resE (exp 2147483648 T []) = f) := ⟨_, rfl⟩
  obtain ⟨u, hu⟩ : ∃ f, Hid (resT (exp 2147483648 T []) = f) := ⟨_, rfl⟩
  rw [hf.out, hu.out, hN.out] at kx
  rw [hLc.out, hLk.out, hN.out] at kw
  rw [hLc.out] at hc hcc1 W ⊢
  rw [hLk.out] at hk hkc1 ⊢
  rw [hN.out] at hT ⊢
  have KX := Lib.hid kx
  have HC := Lib.hid hc
  have HK := Lib.hid hk
  replace W := Lib.hid W
  clear kx hc hk hrw hr
  by_cases hbig : 20 < Lc ∨ 20 < Lk
  · have hways : (20 : Int) < (Lc : Int) ∨ ¬ (20 : Int) < (Lc : Int) ∧ (20 : Int) < (Lk : Int) := by omega
    clear hbig
    rcases hways with h1 | ⟨h1, h2⟩
    all_goals
      go_wp2_with fail
      refine (KA.out _).mono ?_
      rintro e5 w5 ⟨_, rfl, rfl, J⟩
      go_wp2
      go_ret
      exact ⟨_, rfl, rfl, H.join J⟩
  have hb1 : ¬ (20 : Int) < (Lc : Int) := by omega
  have hb2 : ¬ (20 : Int) < (Lk : Int) := by omega
  replace W := Lib.hid (W.out (by omega))
  replace kw := Lib.hid (kw.out (by omega) (by omega))
  clear hbig
  go_wp2_with fail
  refine kw.out.mono ?_
  rintro e5 w1 ⟨_, rfl, rfl, J⟩
  have HJ := H.join J
  clear kw
  go_wp2_with fail
  refine (KX.out _ HJ).mono ?_
  rintro e5 w2 ⟨_, rfl, rfl, J2⟩
  replace H : Own w w2 [] := HJ.join J2
  clear J J2 HJ KX
  obtain ⟨rt, hrt⟩ : ∃ b, Hid (rightF N cs ks = b) := ⟨_, rfl⟩
  obtain ⟨F, hF⟩ : ∃ b, Hid (wfalls N (cs.zip ks) 0 = b) := ⟨_, rfl⟩
  have hWe := W.out.err
  have hWn := W.out.none
  have hWs := W.out.some
  rw [hN.out, hrt.out, hF.out, hf.out] at hWe
  rw [hu.out] at hWs
  replace hWe := Lib.hid hWe
  replace hWn := Lib.hid hWn
  replace hWs := Lib.hid hWs
  clear W hf hu
  go_upto_region 8 with (fail)
  go_cut [12] (fun v12 wx => wx = w2 ∧ v12 = .bool rt)
  case first =>
    unfold rightF at hrt
    rw [hLc.out, hLk.out] at hrt
    by_cases h1 : 0 < Lc
    · have h1I : (0 : Int) < (Lc : Int) := by omega
      by_cases h2 : Lc = Lk
      · obtain ⟨M, rfl⟩ : ∃ M, Lc = M + 1 := ⟨Lc - 1, by omega⟩
        obtain rfl : Lk = M + 1 := by omega
        obtain ⟨bc, oc, rfl, ccell⟩ := rd_at HC.out H (i := M) (by omega)
        have hrt2 := hrt.out
        rw [decide_eq_true h1, decide_eq_true rfl, Bool.true_and, Bool.true_and, Nat.add_sub_cancel] at hrt2
        generalize cs.getD M 0 = x at *
        have hx1 : (x == (N : Int)) = rt := by rw [← hrt2]; rfl
        clear hrt hrt2 h1 h2
        go_wp2
        go_meet
        exact ⟨rfl, rfl⟩
      · have h2b : ((Lc : Int) == (Lk : Int)) = false := by simp; omega
        have hrt2 : Hid (false = rt) := Lib.hid (by rw [← hrt.out, decide_eq_true h1, decide_eq_false h2]; rfl)
        clear hrt h2 h1
        go_wp2
        go_meet
        exact ⟨rfl, by rw [hrt2.out]⟩
    · have h1I : ¬ (0 : Int) < (Lc : Int) := by omega
      have hrt2 : Hid (false = rt) := Lib.hid (by rw [← hrt.out, decide_eq_false h1]; rfl)
      clear hrt h1
      go_wp2
      go_meet
      exact ⟨rfl, by rw [hrt2.out]⟩
  case rest =>
  obtain ⟨rfl, rfl⟩ := hcut
  by_cases hrb : rt = true
  case neg =>
    obtain rfl : rt = false := by simpa using hrb
    have hWe2 := hWe.out
    have he1 : e = 1 := by rw [hWe2]; rfl
    have ht0 := hWn.out (by rw [he1]; decide)
    subst he1 ht0
    clear hWe hWn hWs hWe2 hrb hrt
    go_wp2_with fail
    go_loopw [15] (fun v15 wx => v15 = .int .i64 0 ∧ Own w wx []) (fun _ _ => 0)
    case atStart => exact ⟨rfl, H⟩
    case round =>
      clear H
      obtain ⟨rfl, H⟩ := hrel
      go_wp2_with fail
      refine (KA.out _).mono ?_
      rintro e5 w5 ⟨_, rfl, rfl, J⟩
      go_wp2
      go_ret
      exact ⟨_, rfl, rfl, H.join J⟩
  subst hrb
  obtain ⟨hL0, hLL⟩ : 0 < Lc ∧ Lc = Lk := by
    have h := hrt.out
    unfold rightF at h
    rw [hLc.out, hLk.out] at h
    simp only [Bool.and_eq_true, decide_eq_true_eq] at h
    exact ⟨h.1, h.2.1⟩
  subst hLL
  have hFz : Hid ((false || wfalls N ((cs.zip ks).drop 0) 0) = F) := Lib.hid (by rw [List.drop_zero, Bool.false_or]; exact hF.out)
  clear hrt hF
  go_wp2_with fail
  go_loopw [13, 14, 15] (fun v13 v14 v15 wx => ∃ (i : Nat) (fr : Int) (fb : Bool), v13 = .int .i64 fr ∧ v14 = .bool fb ∧ v15 = .int .i64 i ∧ i ≤ Lc ∧ Hid ((fb || wfalls N ((cs.zip ks).drop i) fr) = F) ∧ Own w wx []) (fun _ _ v15 _ => Lc - (intOf v15).toNat)
  case atStart => exact ⟨0, 0, false, rfl, rfl, rfl, by omega, hFz, H⟩
  case round =>
    clear H hFz
    obtain ⟨i, fr, fb, rfl, rfl, rfl, hi, hst, H⟩ := hrel
    by_cases hiL : i < Lc
    · have hiI : (i : Int) < (Lc : Int) := by omega
      obtain ⟨b1, o1, rfl, cc1⟩ := rd_at HC.out H hiL
      obtain ⟨b2, o2, rfl, cc2⟩ := rd_at HK.out H hiL
      have hst2 := hst.out
      rw [zip_drop (by rw [hLc.out]; exact hiL) (by rw [hLk.out]; exact hiL), wfalls] at hst2
      generalize cs.getD i 0 = x at *
      generalize ks.getD i 0 = kd at *
      replace hst2 := Lib.hid hst2
      clear hst
      have hways : (x < fr ∧ wbad N fr x kd = true) ∨ (¬ x < fr ∧ (N : Int) < x ∧ wbad N fr x kd = true) ∨ (¬ x < fr ∧ ¬ (N : Int) < x ∧ kd ≠ 1 ∧ kd ≠ 2 ∧ wbad N fr x kd = true) ∨ (¬ x < fr ∧ ¬ (N : Int) < x ∧ kd = 1 ∧ wbad N fr x kd = false) ∨ (¬ x < fr ∧ ¬ (N : Int) < x ∧ kd = 2 ∧ wbad N fr x kd = false) := by
        unfold wbad
        simp only [Bool.or_eq_true, Bool.or_eq_false_iff, decide_eq_true_eq, decide_eq_false_iff_not]
        omega
      rcases hways with ⟨h1, hw⟩ | ⟨h1, h2, hw⟩ | ⟨h1, h2, h3, h4, hw⟩ | ⟨h1, h2, h3, hw⟩ | ⟨h1, h2, h3, hw⟩
      · have hst3 : Hid ((true || wfalls N ((cs.zip ks).drop (i + 1)) x) = F) := Lib.hid (by have h := hst2.out; rw [hw] at h; rw [← h]; simp)
        clear hst2 hw
        go_wp2
        go_roundw
        case rel => exact ⟨i + 1, x, true, rfl, rfl, by go_num, by omega, hst3, H⟩
        case measure => simp [intOf]; omega
      · have hst3 : Hid ((true || wfalls N ((cs.zip ks).drop (i + 1)) x) = F) := Lib.hid (by have h := hst2.out; rw [hw] at h; rw [← h]; simp)
        clear hst2 hw
        go_wp2
        go_roundw
        case rel => exact ⟨i + 1, x, true, rfl, rfl, by go_num, by omega, hst3, H⟩
        case measure => simp [intOf]; omega
      · have hst3 : Hid ((true || wfalls N ((cs.zip ks).drop (i + 1)) x) = F) := Lib.hid (by have h := hst2.out; rw [hw] at h; rw [← h]; simp)
        have hk1 : (kd != 1) = true := by simp [h3]
        have hk2 : (kd != 2) = true := by simp [h4]
        have hk1' : (kd == 1) = false := by simp [h3]
        have hk2' : (kd == 2) = false := by simp [h4]
        clear hst2 hw h3 h4
        go_wp2
        go_roundw
        case rel => exact ⟨i + 1, x, true, rfl, rfl, by go_num, by omega, hst3, H⟩
        case measure => simp [intOf]; omega
      · have hst3 : Hid ((fb || wfalls N ((cs.zip ks).drop (i + 1)) x) = F) := Lib.hid (by have h := hst2.out; rw [hw, Bool.false_or] at h; exact h)
        subst h3
        clear hst2 hw
        go_wp2
        go_roundw
        case rel => exact ⟨i + 1, x, fb, rfl, rfl, by go_num, by omega, hst3, H⟩
        case measure => simp [intOf]; omega
      · have hst3 : Hid ((fb || wfalls N ((cs.zip ks).drop (i + 1)) x) = F) := Lib.hid (by have h := hst2.out; rw [hw, Bool.false_or] at h; exact h)
        subst h3
        clear hst2 hw
        go_wp2
        go_roundw
        case rel => exact ⟨i + 1, x, fb, rfl, rfl, by go_num, by omega, hst3, H⟩
        case measure => simp [intOf]; omega
    · obtain rfl : i = Lc := by omega
      have hiI : ¬ (i : Int) < (i : Int) := by omega
      have hnil : (cs.zip ks).drop i = [] := List.drop_eq_nil_of_le (by rw [List.length_zip, hLc.out, hLk.out]; omega)
      have hst2 := hst.out
      rw [hnil, wfalls, Bool.or_false] at hst2
      subst hst2
      have hWe2 := hWe.out
      clear hst hnil
      by_cases hf0 : f = 0
      · subst hf0
        cases fb with
        | true =>
          have he1 : e = 1 := by rw [hWe2]; rfl
          have ht0 := hWn.out (by rw [he1]; decide)
          subst he1 ht0
          clear hWe hWn hWs hWe2
          go_wp2_with fail
          refine (KA.out _).mono ?_
          rintro e5 w5 ⟨_, rfl, rfl, J⟩
          go_wp2
          go_ret
          exact ⟨_, rfl, rfl, H.join J⟩
        | false =>
          have he1 : e = 0 := by rw [hWe2]; rfl
          subst he1
          obtain ⟨hts, hus, hres⟩ := hWs.out rfl
          obtain ⟨z, hz⟩ : ∃ z, Hid (u.size = z) := ⟨_, rfl⟩
          rw [hz.out] at hus hres
          obtain ⟨tz, htz⟩ : ∃ z, Hid (t.size = z) := ⟨_, rfl⟩
          have KI := Lib.hid (fun w => rinflate_any w t (z : Int) (by omega) hts)
          rw [htz.out] at hres
          replace hres := Lib.hid hres
          have hz1 : u.size = z := hz.out
          have htz1 : t.size = tz := htz.out
          clear hWe hWn hWs hWe2 hz htz
          go_wp2_with fail
          refine (KI.out _).mono ?_
          rintro e5 w5 ⟨_, rfl, t1, u1, e1, rfl, hr1, J⟩
          obtain ⟨rfl, rfl, rfl⟩ := hres.out _ _ _ hr1
          replace H := H.join J
          clear J hr1 hres KI
          go_wp2_with fail
          refine (KA.out _).mono ?_
          rintro e5 w6 ⟨_, rfl, rfl, J⟩
          go_wp2
          go_ret
          exact ⟨_, rfl, rfl, H.join J⟩
      · have hfb : (f == 0) = false := by simp [hf0]
        have hfb2 : (f != 0) = true := by simp [hf0]
        have he1 : e = f := by rw [hWe2]; unfold wantF; rw [hfb]; rfl
        have ht0 := hWn.out (by rw [he1]; exact hf0)
        subst he1 ht0
        clear hWe hWn hWs hWe2 hf0
        go_wp2_with fail
        refine (KA.out _).mono ?_
        rintro e5 w5 ⟨_, rfl, rfl, J⟩
        go_wp2
        go_ret
        exact ⟨_, rfl, rfl, H.join J⟩
end Go.Proofs.Ytpbodonmiepilaa
/- split: the walk of Pack. -/
namespace Go.Proofs.Ytpbodonmiepilaa
open Go.RowKit

/-- What With answers of the plan. -/
theorem plan_with (s : ByteArray) (hs : s.size ≤ 1500) {C : List Nat} (hC : CutsIs (parse s).length C) :
    ∃ t, withV (parse s) (atT (parse s) C) (ksT (parse s) C) = .tuple #[.string t, .int .i64 0] ∧ t.size ≤ 1000000 ∧ ∀ u n g, InfRes (textBits t) s.size u n g → u = s ∧ n = t.size ∧ g = 0 := by
  have hpl := parse_len s
  obtain ⟨h0, h12, hlast, hrise, hle⟩ := hC.facts
  obtain ⟨l, h1, h2, hc, ⟨k, hl⟩, hlon, -, hll⟩ := (plan_ok (T := parse s) h0).ex
  have hz : (atT (parse s) C).zip (ksT (parse s) C) = prs C l := by
    rw [h1, h2, prs, List.zip_map']
  have hne : l ≠ [] := fun e => by rw [e] at hl; cases hl
  have hl0 : 0 < l.length := List.length_pos_iff.2 hne
  obtain ⟨t, e, W⟩ := with_ok (parse s) (atT (parse s) C) (ksT (parse s) C) (by omega) (by rw [h1, List.length_map]; omega)
  have hx : exp 2147483648 (parse s) [] = .ok (byteNums s) := by
    rw [← bnum_nums]
    exact (exp_tight (m := s.size) (M := 2147483648) (by omega) (by omega) _ _ _ (exp_parse (by omega)) (by simp) (by rw [bnum_length]; omega)).1
  have hr : rightF (parse s).length (atT (parse s) C) (ksT (parse s) C) = true := by
    unfold rightF
    have e1 : (atT (parse s) C).length = l.length := by rw [h1, List.length_map]
    have e2 : (ksT (parse s) C).length = l.length := by rw [h2, List.length_map]
    have e3 : (atT (parse s) C).getD (l.length - 1) 0 = ((parse s).length : Int) := by
      rw [h1]
      rw [List.getLast?_eq_getElem?] at hl
      rw [List.getD_eq_getElem?_getD, List.getElem?_map, hl]
      show ((C.getD (C.length - 1) 0 : Nat) : Int) = _
      rw [hlast]
    rw [e1, e2, e3, decide_eq_true hl0]
    simp
  have hw : wfalls (parse s).length ((atT (parse s) C).zip (ksT (parse s) C)) 0 = false := by
    rw [hz]
    exact chn_wf hrise hle l 0 hc fun p _ => by omega
  have he : e = 0 := by
    rw [W.err, hr, hw, hx]
    rfl
  subst he
  refine ⟨t, W.val, (W.some rfl).1, fun u n g h => ?_⟩
  have h3 := (W.some rfl).2.2 u n g
  rw [hx] at h3
  have h4 : resT (.ok (byteNums s)) = s := strOf_nums s
  rw [h4] at h3
  rw [show max (s.size : Int) 0 = (s.size : Int) by omega] at h3
  exact h3 h
/-- What Pack answers. -/
def PackR (s : ByteArray) (v : Value) : Prop := ∃ C t, CutsIs (parse s).length C ∧ withV (parse s) (atT (parse s) C) (ksT (parse s) C) = .tuple #[.string t, .int .i64 0] ∧ t.size ≤ 1000000 ∧ (∀ u n g, InfRes (textBits t) s.size u n g → u = s ∧ n = t.size ∧ g = 0) ∧ v = .string (if (packF s).size ≤ t.size then packF s else t)
theorem packR_uniq {s : ByteArray} {v v' : Value} (h : PackR s v) (h' : PackR s v') : v = v' := by
  obtain ⟨C, t, h1, h2, -, -, rfl⟩ := h
  obtain ⟨C', t', h1', h2', -, -, rfl⟩ := h'
  obtain rfl := cutsIs_uniq h1 h1'
  rw [h2] at h2'
  have : t = t' := by simpa using h2'
  rw [this]
set_option maxRecDepth 100000 in
set_option maxHeartbeats 1600000 in
theorem spack_any {w : World} (s : ByteArray) (hs : s.size ≤ 1500) :
    Calls Try.prog 17 #[.string s] w (Ret fun r w' => PackR s r ∧ Own w w' []) := by
  have hpl := parse_len s
  have hok := parse_ok s
  have KP := Lib.hid (fun w => lzparse_any (Own.start w) (s := s) (by omega))
  have KW := Lib.hid (fun C h => plan_with s hs (C := C) h)
  have KF := Lib.hid (fun w => pack_any (w := w) s (by omega))
  obtain ⟨PR, hPR⟩ : ∃ PR, Hid (PackR s = PR) := ⟨_, rfl⟩
  have KR : Hid (∀ v, (∃ C t, CutsIs (parse s).length C ∧ withV (parse s) (atT (parse s) C) (ksT (parse s) C) = .tuple #[.string t, .int .i64 0] ∧ t.size ≤ 1000000 ∧ (∀ u n g, InfRes (textBits t) s.size u n g → u = s ∧ n = t.size ∧ g = 0) ∧ v = .string (if (packF s).size ≤ t.size then packF s else t)) → PR v) := Lib.hid (by rw [← hPR.out]; exact fun v h => h)
  rw [hPR.out]
  clear hPR
  obtain ⟨p, hp⟩ : ∃ p, Hid (packF s = p) := ⟨_, rfl⟩
  rw [hp.out] at KF KR
  generalize hT : parse s = T at *
  have hTl : T.length ≤ 3000 := by omega
  clear hT hp
  have H := Own.start w
  have HOK := Lib.hid hok
  clear hok
  go_enter Try.func17, Try.ntmps17
  go_wp2_with fail
  refine (KP.out _).mono ?_
  rintro e w1 ⟨tv, rfl, J⟩
  replace H := H.join J
  clear J KP
  have ht := H.rd
  have KL := Lib.hid (plan_any ht HOK.out hTl)
  go_wp2_with fail
  refine KL.out.mono ?_
  rintro e w2 ⟨_, rfl, C, hC, av, kv, rfl, J⟩
  have ht2 := ht.old J
  have H2 := H.join J
  clear H KL ht
  have hlen1 : (planI T C).length = (atT T C).length := by simp [atT]
  have hlen2 : (planI T C).length = (ksT T C).length := by simp [ksT]
  have ha := H2.rd
  have hk := (H2.front 1 rfl).rd
  rw [hlen1] at ha
  rw [hlen2] at hk
  obtain ⟨h0, h12, -, -, -⟩ := hC.facts
  have hpln : (planI T C).length ≤ C.length := backT_length _ _ _
  have KX := Lib.hid (with_any ht2 ha hk hTl (by omega) (by omega))
  obtain ⟨t, e1, e2, e3⟩ := KW.out C hC
  rw [e1] at KX
  clear ha hk ht2 hlen1 hlen2 hpln J
  have KR2 := Lib.hid (fun (v : Value) h => KR.out v ⟨C, t, hC, e1, e2, e3, h⟩)
  clear KR KW e1 e3
  go_wp2_with fail
  refine KX.out.mono ?_
  rintro e w3 ⟨_, rfl, rfl, J⟩
  replace H2 := H2.join J
  clear J KX
  go_wp2_with fail
  refine (KF.out _).mono ?_
  rintro e w4 ⟨_, rfl, rfl, J⟩
  replace H2 := (H2.join J).bare
  clear J KF
  by_cases hle : p.size ≤ t.size
  · rw [if_pos hle] at KR2
    have hleI : (p.size : Int) ≤ (t.size : Int) := by omega
    clear hle
    go_wp2
    go_ret
    exact ⟨_, rfl, KR2.out _ rfl, H2⟩
  · rw [if_neg hle] at KR2
    have hleI : ¬ (p.size : Int) ≤ (t.size : Int) := by omega
    clear hle
    go_wp2
    go_ret
    exact ⟨_, rfl, KR2.out _ rfl, H2⟩
end Go.Proofs.Ytpbodonmiepilaa
/- split: the walk of SplitBack. -/
namespace Go.Proofs.Ytpbodonmiepilaa
open Go.RowKit

def cutP (s : ByteArray) : ByteArray := if 1500 < s.size then s.extract 0 1500 else s
theorem cutP_size (s : ByteArray) : (cutP s).size ≤ 1500 := by
  unfold cutP
  split
  · rw [ByteArray.size_extract]; omega
  · omega
theorem cut47_any (s : ByteArray) (w : World) : Calls Try.prog 10 #[.string s] w (Ret fun r w' => r = .string (cutP s) ∧ Own w w' []) := by
  have H := Own.start w
  obtain ⟨T, hT⟩ : ∃ T, Hid (cutP s = T) := ⟨_, rfl⟩
  rw [hT.out]
  obtain ⟨N, hN⟩ : ∃ N, s.size = N := ⟨_, rfl⟩
  by_cases h : 1500 < N
  · have hI : (1500 : Int) < (N : Int) := by omega
    have hc : (1500 : Int) ≤ (N : Int) := by omega
    have hs : Hid (s.extract 0 1500 = T) := Lib.hid (by rw [← hT.out]; unfold cutP; rw [if_pos (by omega)])
    go_enter Try.func10, Try.ntmps10
    go_wp2_with fail
    go_ret
    exact ⟨_, rfl, by first | (rw [← hs.out]; rfl) | (rw [hs.out]), H⟩
  · have hI : ¬ (1500 : Int) < (N : Int) := by omega
    have hs : Hid (s = T) := Lib.hid (by rw [← hT.out]; unfold cutP; rw [if_neg (by omega)])
    go_enter Try.func10, Try.ntmps10
    go_wp2_with fail
    go_ret
    exact ⟨_, rfl, by rw [← hs.out]; rfl, H⟩
set_option maxRecDepth 100000 in
set_option maxHeartbeats 1600000 in
theorem lawsback_any (s0 : ByteArray) (w : World) : Calls Try.prog 6 #[.string s0] w (Ret fun r w' => r = .bool true ∧ Own w w' []) := by
  have H := Own.start w
  have k1 := fun w => cut47_any s0 w
  have hs := cutP_size s0
  generalize cutP s0 = s at *
  have K1 := Lib.hid k1
  have KP := Lib.hid (fun w => spack_any (w := w) s hs)
  have KF := Lib.hid (fun w => pack_any (w := w) s (by omega))
  have KA := Lib.hid awake47_any
  have hpp : Packed s (packF s) := packed_pack (by omega)
  have hps := packed_size hpp
  have HI := Lib.hid (fun (t : ByteArray) (u e : Int) (h : InfRes (textBits (packF s)) s.size t u e) => packed_back (behind := ByteArray.empty) hpp (by rw [ByteArray.append_empty]; exact h))
  clear k1 hpp
  go_enter Try.func6, Try.ntmps6
  go_wp2_with fail
  refine (K1.out _).mono ?_
  rintro e w1 ⟨_, rfl, rfl, J⟩
  replace H := H.join J
  clear J K1
  go_wp2_with fail
  refine (KP.out _).mono ?_
  rintro e w2 ⟨r, rfl, hr, J⟩
  replace H := H.join J
  clear J
  obtain ⟨t, rfl, htz, hle, hres⟩ : ∃ t : ByteArray, r = .string t ∧ t.size ≤ 1000000 ∧ t.size ≤ (packF s).size ∧ Hid (∀ u n g, InfRes (textBits t) s.size u n g → u = s ∧ n = t.size ∧ g = 0) := by
    obtain ⟨C, t, -, -, h3, h4, rfl⟩ := hr
    by_cases h : (packF s).size ≤ t.size
    · rw [if_pos h]
      exact ⟨_, rfl, by omega, Nat.le_refl _, Lib.hid HI.out⟩
    · rw [if_neg h]
      exact ⟨_, rfl, h3, by omega, Lib.hid h4⟩
  replace hr := Lib.hid hr
  obtain ⟨p, hp⟩ : ∃ p, Hid (packF s = p) := ⟨_, rfl⟩
  rw [hp.out] at KF hle
  have KI := Lib.hid (fun w => rinflate_any w t (s.size : Int) (by omega) htz)
  rw [show max (s.size : Int) 0 = (s.size : Int) by omega] at KI
  have hleI : (t.size : Int) ≤ (p.size : Int) := by omega
  clear HI hp hps hle
  go_wp2_with fail
  refine (KI.out _).mono ?_
  rintro e w3 ⟨_, rfl, u, n, g, rfl, hi, J⟩
  obtain ⟨rfl, rfl, rfl⟩ := hres.out _ _ _ hi
  replace H := H.join J
  clear J KI hi hres
  go_wp2_with fail
  refine (KF.out _).mono ?_
  rintro e w4 ⟨_, rfl, rfl, J⟩
  replace H := H.join J
  clear J KF
  go_wp2_with fail
  refine (KP.out _).mono ?_
  rintro e w5 ⟨r, rfl, hr2, J⟩
  replace H := H.join J
  obtain rfl := packR_uniq hr2 hr.out
  clear J KP hr hr2
  go_wp2_with fail
  refine (KA.out _).mono ?_
  rintro e w6 ⟨_, rfl, rfl, J⟩
  go_wp2
  go_ret
  exact ⟨_, rfl, rfl, H.join J⟩
end Go.Proofs.Ytpbodonmiepilaa
