/-
  lz: what the laws call.
-/
import Derived.Test.YteblnmealnmipaaLzE
import Derived.Test.YteblnmealnmipaaLzZ
namespace Go.Proofs.Yteblnmealnmipaa
open Go.RowKit

theorem cut_any {w0 w : World} {ps : List Piece} (s : ByteArray) (H : Own w0 w ps) : Calls Try.prog 8 #[.string s] w (Ret fun v w' => (∃ s' : ByteArray, v = .string s' ∧ s'.size ≤ 3000) ∧ Own w0 w' ps) := by
  go_enter Try.func8, Try.ntmps8
  by_cases h : 3000 < s.size
  · have hI : (3000 : Int) < (s.size : Int) := by omega
    go_wp2
    go_ret
    refine ⟨_, rfl, ⟨_, rfl, ?_⟩, H⟩
    simp [ByteArray.size_extract]
    try omega
  · have hI : ¬ (3000 : Int) < (s.size : Int) := by omega
    go_wp2
    go_ret
    exact ⟨_, rfl, ⟨_, rfl, by omega⟩, H⟩

set_option maxRecDepth 100000 in
set_option maxHeartbeats 1600000 in
theorem same_any {w : World} {va vb : Value} (l : List Tok) (ha : Rd w 3 va l.length (rows tcell l)) (hb : Rd w 3 vb l.length (rows tcell l)) (hl : l.length ≤ 1000000) :
    Calls Try.prog 9 #[va, vb] w (Ret fun v w' => v = .bool true ∧ Own w w' []) := by
  obtain ⟨N, hN⟩ : ∃ N, Hid (l.length = N) := ⟨_, rfl⟩
  rw [hN.out] at ha hb hl
  obtain ⟨a, c, rfl, _⟩ := ha.shape
  obtain ⟨a', c', rfl, _⟩ := hb.shape
  have HA := Lib.hid ha
  have HB := Lib.hid hb
  clear ha hb
  have H := Own.start w
  go_enter Try.func9, Try.ntmps9
  go_wp2_with fail
  go_loopw [5] (fun s5 wr => ∃ k : Nat, s5 = .int .i64 k ∧ k ≤ N ∧ Own w wr []) (fun s5 _ => N - (intOf s5).toNat)
  case atStart => exact ⟨0, by simp, by omega, H⟩
  case round =>
    clear H
    obtain ⟨k, rfl, hk, H⟩ := hrel
    by_cases hkN : k < N
    · have hkI : (k : Int) < (N : Int) := by omega
      obtain ⟨t, ht⟩ : ∃ t, l[k]? = some t := ⟨l[k]'(by rw [hN.out]; exact hkN), List.getElem?_eq_getElem _⟩
      obtain ⟨b, o, c1, he, _, _, _⟩ := HA.out.at (by rw [HA.out.len]; omega)
      cases he
      obtain ⟨b', o', c1', he, _, _, _⟩ := HB.out.at (by rw [HB.out.len]; omega)
      cases he
      have HT := Lib.hid ht
      clear ht
      go_upto_region 6 with (fail)
      refine wp_region_calm (fun w1 => Own w w1 []) 8 (by kernel_rfl) (by kernel_rfl) H.drew ?_
      simp only [List.take_succ_cons, List.take_zero, List.drop_succ_cons, List.drop_zero]
      repeat
        first
        | (refine calm_value (v := ?_) (by decide) rfl (fun σ w1 hS => ?_) ?_
           rotate_left
           · obtain ⟨c1, c2, c3⟩ := tok_cells (HA.out.old hS) HT.out; obtain ⟨d1, d2, d3⟩ := tok_cells (HB.out.old hS) HT.out
             first | (go_simp; rfl) | rfl
           simp only [Act.put, List.setIfInBounds_toArray, List.set_cons_zero, List.set_cons_succ])
        | (refine calm_skip (by decide) rfl ?_
           simp only [Act.put, List.setIfInBounds_toArray, List.set_cons_zero, List.set_cons_succ])
      refine calm_nil ?_
      intro wd HD
      clear H
      go_wp2
      go_roundw
      case rel => exact ⟨k + 1, by go_num, by omega, HD⟩
      case measure => simp [intOf]; omega
    · have hkI : ¬ (k : Int) < (N : Int) := by omega
      go_wp2
      go_ret
      exact ⟨_, rfl, rfl, H⟩

theorem awake_parse : parse ⟨#[97, 98, 99, 97, 98, 99, 97, 98, 99]⟩ = [⟨0, 0, 97⟩, ⟨0, 0, 98⟩, ⟨0, 0, 99⟩, ⟨6, 3, 0⟩] := by decide +kernel
end Go.Proofs.Yteblnmealnmipaa
