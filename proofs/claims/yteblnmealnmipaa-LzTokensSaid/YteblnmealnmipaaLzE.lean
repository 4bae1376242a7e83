/-
  lz: the walk of the document's Parse.
-/
import Derived.Test.YteblnmealnmipaaLzD
namespace Go.Proofs.Yteblnmealnmipaa
open Go.RowKit Go.Maps

set_option maxRecDepth 100000 in
set_option maxHeartbeats 3200000 in
theorem refparse_any {w0 w : World} {ps : List Piece} {s : ByteArray} (H : Own w0 w ps) (hs : s.size ≤ 1000000) :
    Calls Try.prog 11 #[.string s] w (Ret fun v w' => Own w0 w' (slc 36 3 v (parse s).length (rows tcell (parse s)) :: ps)) := by
  obtain ⟨W, hW⟩ : ∃ W, Hid (parseN s s.size 0 = W) := ⟨_, rfl⟩
  have hp : Hid (parse s = W) := Lib.hid hW.out
  rw [hp.out]
  replace H := H.nil 36 3
  go_enter Try.func11, Try.ntmps11
  go_wp2_with fail
  go_loopw [3, 4] (fun s3 s4 wr => ∃ (i f : Nat) (l : List Tok), s4 = .int .i64 i ∧ i ≤ s.size ∧ s.size ≤ i + f ∧ Hid (l ++ parseN s f i = W) ∧ l.length ≤ i ∧ Own w0 wr (slc 36 3 s3 l.length (rows tcell l) :: ps)) (fun _ s4 _ => s.size - (intOf s4).toNat)
  case atStart => exact ⟨0, s.size, [], by simp, by omega, by omega, hW, by simp, H⟩
  case round =>
    clear H
    obtain ⟨i, f, l, rfl, hi, hf, hl, hll, H⟩ := hrel
    by_cases hlt : i < s.size
    · have hltI : (i : Int) < (s.size : Int) := by omega
      obtain ⟨f, rfl⟩ : ∃ f', f = f' + 1 := ⟨f - 1, by omega⟩
      have hpn : parseN s (f + 1) i = tokAt s i :: parseN s f (i + stepAt s i) := by rw [parseN, if_pos hlt]
      have hsl := stepAt_le hlt
      have hsp := stepAt_pos s i
      have hst : Hid (stepAt s i = if 3 ≤ (trim (best s i (min i 4096))).1 then (trim (best s i (min i 4096))).1 else 1) := Lib.hid rfl
      have htk : Hid (tokAt s i = if 3 ≤ (trim (best s i (min i 4096))).1 then ⟨(trim (best s i (min i 4096))).1, (trim (best s i (min i 4096))).2, 0⟩ else ⟨0, 0, (byt s i).toNat⟩) := Lib.hid rfl
      obtain ⟨m, hm⟩ : ∃ m, Hid (stepAt s i = m) := ⟨_, rfl⟩
      obtain ⟨t, ht⟩ : ∃ t, Hid (tokAt s i = t) := ⟨_, rfl⟩
      rw [hm.out] at hst hpn hsl hsp
      rw [ht.out] at htk hpn
      have hl2 : Hid ((l ++ [t]) ++ parseN s f (i + m) = W) := Lib.hid (by rw [← hl.out, hpn]; simp)
      clear hl hpn
      have e0 := byt_is hlt
      have hx8 := (byt s i).toNat_lt
      have hwx : wrap64 (((byt s i).toNat : Nat) : Int) = (((byt s i).toNat : Nat) : Int) := IntWalk.wrap64_in _ ⟨by omega, by omega⟩
      go_wp2_with fail
      go_loopw [5, 6, 7] (fun s5 s6 s7 wr => ∃ a b d : Nat, s5 = .int .i64 a ∧ s6 = .int .i64 b ∧ s7 = .int .i64 ((d + 1 : Nat) : Int) ∧ d ≤ min i 4096 ∧ Hid (best s i d = (a, b)) ∧ Own w0 wr (slc 36 3 u3 l.length (rows tcell l) :: ps)) (fun _ _ s7 _ => 5000 - (intOf s7).toNat)
      case atStart => exact ⟨0, 0, 0, by simp, by simp, by simp, by omega, Lib.hid rfl, H⟩
      case round =>
        clear H
        obtain ⟨a, b, d, rfl, rfl, rfl, hd, hab, H⟩ := hrel
        have hd1 := (best_far s i d).2.2
        rw [hab.out] at hd1
        simp only at hd1
        by_cases hdm : d + 1 ≤ min i 4096
        · have hdi : (d : Int) + 1 ≤ (i : Int) := by omega
          have hd4 : (d : Int) + 1 ≤ 4096 := by omega
          obtain ⟨x, hx⟩ : ∃ x, Hid (i - (d + 1) = x) := ⟨_, rfl⟩
          have hxI : (i : Int) - ((d : Int) + 1) = (x : Int) := by have := hx.out; omega
          have hxi : x ≤ i := by have := hx.out; omega
          have hbs : Hid (best s i (d + 1) = if a < comm s x i then (comm s x i, d + 1) else (a, b)) := Lib.hid (by rw [best, hab.out, hx.out])
          obtain ⟨n, hn⟩ : ∃ n, Hid (comm s x i = n) := ⟨_, rfl⟩
          have hbs' := hbs.out
          rw [hn.out] at hbs'
          clear hbs
          go_wp2_with fail
          refine (common_any H hxi hi hs).mono ?_
          rintro e w1 ⟨_, rfl, rfl, H1⟩
          rw [hn.out]
          clear H
          by_cases han : a < n
          · have hanI : (a : Int) < (n : Int) := by omega
            rw [if_pos han] at hbs'
            have HB := Lib.hid hbs'
            clear hbs'
            go_wp2_with fail
            go_roundw
            case rel => exact ⟨n, d + 1, d + 1, by go_num, by go_num, by go_num, by omega, HB, H1⟩
            case measure => simp [intOf]; omega
          · have hanI : ¬ (a : Int) < (n : Int) := by omega
            rw [if_neg han] at hbs'
            have HB := Lib.hid hbs'
            clear hbs'
            go_wp2_with fail
            go_roundw
            case rel => exact ⟨a, b, d + 1, by go_num, by go_num, by go_num, by omega, HB, H1⟩
            case measure => simp [intOf]; omega
        · have hde : d = min i 4096 := by omega
          have hst' := hst.out
          have htk' := htk.out
          rw [← hde, hab.out] at hst' htk'
          by_cases ha3 : 3 ≤ a
          · have ha3I : ¬ (a : Int) < 3 := by omega
            have et : trim (a, b) = (a, b) := by unfold trim; rw [if_pos ha3]
            rw [et, if_pos ha3] at hst' htk'
            simp only at hst'
            have HT := Lib.hid htk'
            clear htk' et hst htk hde hab
            by_cases hdi : d + 1 ≤ i
            case' pos =>
              have hdiI : (d : Int) + 1 ≤ (i : Int) := by omega
              have hd4 : ¬ (d : Int) + 1 ≤ 4096 := by omega
            case' neg =>
              have hdiI : ¬ (d : Int) + 1 ≤ (i : Int) := by omega
            all_goals
              go_wp2_with (at_builtin; refine wpList_append_one rfl _ _ rfl Try.underlying24 tokInfo rfl (by decide) rfl H (news := tcell ⟨a, b, 0⟩) rfl rfl rfl (tcell_one _) (by omega) (by omega) ?_; clear H; intro v' w7 H)
              go_roundw
              case rel =>
                rw [hst'] at hsl hl2 hsp
                rw [HT.out] at hl2
                refine ⟨i + a, f, l ++ [⟨a, b, 0⟩], by go_num, by omega, by omega, hl2, by simp; omega, ?_⟩
                rw [rows_append, rows_one, List.length_append]
                exact H
              case measure => simp [intOf]; omega
          · have ha3I : (a : Int) < 3 := by omega
            have et : trim (a, b) = (0, 0) := by unfold trim; rw [if_neg ha3]
            rw [et, if_neg (by decide)] at hst' htk'
            have HT := Lib.hid htk'
            clear htk' et hst htk hde hab
            by_cases hdi : d + 1 ≤ i
            case' pos =>
              have hdiI : (d : Int) + 1 ≤ (i : Int) := by omega
              have hd4 : ¬ (d : Int) + 1 ≤ 4096 := by omega
            case' neg =>
              have hdiI : ¬ (d : Int) + 1 ≤ (i : Int) := by omega
            all_goals
              go_wp2_with (at_builtin; refine wpList_append_one rfl _ _ rfl Try.underlying24 tokInfo rfl (by decide) rfl H (news := tcell ⟨0, 0, (byt s i).toNat⟩) rfl rfl rfl (tcell_one _) (by omega) (by omega) ?_; clear H; intro v' w7 H)
              go_roundw
              case rel =>
                rw [hst'] at hsl hl2 hsp
                rw [HT.out] at hl2
                refine ⟨i + 1, f, l ++ [⟨0, 0, (byt s i).toNat⟩], by go_num, by omega, by omega, hl2, by simp; omega, ?_⟩
                rw [rows_append, rows_one, List.length_append]
                exact H
              case measure => simp [intOf]; omega
    · have hltI : ¬ (i : Int) < (s.size : Int) := by omega
      have hfin : Hid (l = W) := Lib.hid (by rw [← hl.out, parseN_end (by omega)]; simp)
      clear hl
      go_wp2
      go_ret
      refine ⟨_, rfl, ?_⟩
      rw [← hfin.out]
      exact H
end Go.Proofs.Yteblnmealnmipaa
