/-
  lz: the walk of LzBack.
-/
import Derived.Test.YteblnmealnmipaaLzM
import Derived.Test.YteblnmealnmipaaLzQ
import Derived.Test.YteblnmealnmipaaBit
namespace Go.Proofs.Yteblnmealnmipaa
open Go.RowKit

set_option maxRecDepth 100000 in
set_option maxHeartbeats 3200000 in
theorem back_any {w : World} (s : ByteArray) (less : Int) : Calls Try.prog 5 #[.string s, .int .i64 less] w (Ret fun v w' => v = .bool true ∧ Own w w' []) := by
  have H := Own.start w
  have hand := i64_and_mask less 12 (by omega)
  have hmk : bits .and .i64 less 4095 = less % 4096 := hand
  clear hand
  obtain ⟨m, hm⟩ : ∃ m, Hid (less % 4096 = m) := ⟨_, rfl⟩
  have hm0 : 0 ≤ m := by rw [← hm.out]; omega
  have hm1 : m < 4096 := by rw [← hm.out]; omega
  rw [hm.out] at hmk
  go_enter Try.func5, Try.ntmps5
  go_wp2_with fail
  refine (cut_any s H).mono ?_
  rintro e w1 ⟨_, rfl, ⟨t, rfl, hs⟩, H1⟩
  clear H
  go_wp2_with fail
  refine (lzparse_any H1 (by omega)).mono ?_
  rintro e w2 ⟨v1, rfl, H2⟩
  clear H1
  have hpl := parse_length t
  have hq := Lib.hid (exp_parse (s := t) (by omega))
  have hba := Lib.hid (bnum_all t)
  have hex : Hid (resVal (exp t.size (parse t) []) = .tuple #[.string t, .int .i64 0]) := Lib.hid (by rw [hq.out]; show Value.tuple #[.string (strOfNums (bnum t t.size)), .int .i64 0] = _; rw [hba.out])
  obtain ⟨L, hL⟩ : ∃ L, Hid ((parse t).length = L) := ⟨_, rfl⟩
  rw [hL.out] at hpl
  have hplI : ¬ (t.size : Int) < (L : Int) := by omega
  obtain ⟨a, c, rfl, hc1, hc2⟩ := H2.rd.shape
  have HR := Lib.hid H2.rd
  go_wp2_with fail
  refine (expand_any (parse t) t.size HR.out (by rw [hL.out]; omega)).mono ?_
  rintro e w3 ⟨_, rfl, rfl, h3⟩
  rw [hex.out]
  have H3 := H2.join h3
  have H3 : Own w w3 (slc 36 3 (.slice a (parse t).length c) (parse t).length (rows tcell (parse t)) :: []) := H3
  clear h3 H2 HR hq hba hex
  have HR := Lib.hid H3.rd
  rw [hL.out] at HR hc1 ⊢
  by_cases hz : m = 0
  · go_wp2_with fail
    refine (awake_any H3).mono ?_
    rintro e w4 ⟨_, rfl, rfl, H4⟩
    go_wp2
    go_ret
    exact ⟨_, rfl, rfl, H4.bare⟩
  · have hzb : (m == 0) = false := by simp [hz]
    by_cases hzl : (t.size : Int) < m
    · go_wp2_with fail
      refine (awake_any H3).mono ?_
      rintro e w4 ⟨_, rfl, rfl, H4⟩
      go_wp2
      go_ret
      exact ⟨_, rfl, rfl, H4.bare⟩
    · have hw : IntKind.i64.wrap ((t.size : Int) - m) = (t.size : Int) - m := IntWalk.i64_in _ ⟨by omega, by omega⟩
      have he := Lib.hid (exp_parse_less (s := t) (most := (t.size : Int) - m) (by omega) (by omega) (by omega))
      go_wp2_with fail
      refine (expand_any (parse t) ((t.size : Int) - m) (v := .slice a L c) (by rw [hL.out]; exact HR.out) (by rw [hL.out]; omega)).mono ?_
      rintro e w4 ⟨_, rfl, rfl, h4⟩
      rw [he.out]
      have H4 := (H3.join h4).bare
      unfold resVal
      go_wp2_with fail
      refine (awake_any H4).mono ?_
      rintro e w5 ⟨_, rfl, rfl, H5⟩
      go_wp2
      go_ret
      exact ⟨_, rfl, rfl, H5⟩
end Go.Proofs.Yteblnmealnmipaa
