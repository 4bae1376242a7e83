/-
  lz: the walk of LzExpands.
-/
import Derived.Test.YteblnmealnmipaaLzM
namespace Go.Proofs.Yteblnmealnmipaa
open Go.RowKit

theorem resVal_shape (R : Res) : ∃ (b : ByteArray) (e : Int), resVal R = .tuple #[.string b, .int .i64 e] := by
  cases R with
  | err e => exact ⟨_, _, rfl⟩
  | ok out => exact ⟨_, _, rfl⟩

set_option maxRecDepth 100000 in
set_option maxHeartbeats 1600000 in
theorem expands_any {w : World} (l : List Tok) (most : Int) {a : Option Addr} {c : Nat} (hR : Rd w 3 (.slice a l.length c) l.length (rows tcell l)) :
    Calls Try.prog 4 #[.slice a l.length c, .int .i64 most] w (Ret fun v w' => v = .bool true ∧ Own w w' []) := by
  have H := Own.start w
  obtain ⟨N, hN⟩ : ∃ N, Hid (l.length = N) := ⟨_, rfl⟩
  rw [hN.out] at hR ⊢
  have hsh : N ≤ c ∧ c ≤ 9223372036854775807 := by
    obtain ⟨a', c', he, h1, h2⟩ := hR.shape
    cases he
    exact ⟨h1, h2⟩
  obtain ⟨hs1, hs2⟩ := hsh
  go_enter Try.func4, Try.ntmps4
  by_cases hb : 500 < N
  case' pos =>
    have hbI : (500 : Int) < (N : Int) := by omega
    have hc5 : 500 ≤ c := by omega
    obtain ⟨b, o, c', he, _, _, _⟩ := hR.at (by rw [hR.len]; omega)
    cases he
    have HL := (hR.take (k := 500) (by omega))
    rw [rows_take tcell tcell_length] at HL
    have hlen : (l.take 500).length = 500 := by rw [List.length_take, hN.out]; omega
    go_upto_region 3 with (fail)
    generalize l.take 500 = L at *
    have HQ : Rd w 3 (.slice (some ⟨b, o, none⟩) 500 c) L.length (rows tcell L) := by rw [hlen]; exact HL
    have hL5 : L.length ≤ 3000 := by omega
    generalize Value.slice (some ⟨b, o, none⟩) 500 c = va at *
  case' neg =>
    have hbI : ¬ (500 : Int) < (N : Int) := by omega
    go_upto_region 3 with (fail)
    have HQ : Rd w 3 (.slice a N c) l.length (rows tcell l) := by rw [hN.out]; exact hR
    have hL5 : l.length ≤ 3000 := by rw [hN.out]; omega
    generalize Value.slice a N c = va at *
    generalize l = L at *
  all_goals
    clear hR hbI hb
    obtain ⟨B, E, hBE⟩ := resVal_shape (exp most L [])
    have hbe := Lib.hid hBE
    clear hBE
    go_wp2_with fail
    refine (expand_any L most HQ hL5).mono ?_
    rintro e w1 ⟨_, rfl, rfl, H1⟩
    rw [hbe.out]
    go_wp2_with fail
    refine (refexpand_any L most (HQ.old H1) hL5).mono ?_
    rintro e w2 ⟨_, rfl, rfl, h2⟩
    rw [hbe.out]
    have H2 := (H1.join h2).bare
    clear h2
    go_wp2_with fail
    refine (awake_any H2).mono ?_
    rintro e w3 ⟨_, rfl, rfl, H3⟩
    go_wp2
    go_ret
    exact ⟨_, rfl, rfl, H3⟩
end Go.Proofs.Yteblnmealnmipaa
