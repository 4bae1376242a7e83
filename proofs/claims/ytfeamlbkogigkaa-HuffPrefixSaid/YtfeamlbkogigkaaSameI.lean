/-
  The reference's Same: the walk.
-/
import Derived.Test.YtfeamlbkogigkaaRow
import Derived.Test.YtfeamlbkogigkaaReg
import Derived.Deep.LoopGhost
import Derived.WalkLawsBesides
import Derived.WalkSpells
import Derived.Deep.DeepCutAuto
import Derived.Deep.CutBlock
import Derived.Test.YtfeamlbkogigkaaRows
namespace Go.Proofs.Ytfeamlbkogigkaa
open Go.RowKit

set_option maxHeartbeats 800000 in
theorem same_any (a b : List Int) {va vb : Value} (w : World) (ha : Rd w 1 va a.length (nums a)) (hb : Rd w 1 vb b.length (nums b)) :
    Calls Try.prog 20 #[va, vb] w (Ret fun v w' => v = .bool (decide (a = b)) ∧ Own w w' []) := by
  obtain ⟨ao, ca, rfl, ha1, ha2⟩ := ha.shape
  obtain ⟨bo, cb, rfl, hb1, hb2⟩ := hb.shape
  go_enter Try.func20, Try.ntmps20
  by_cases hl : a.length = b.length
  · obtain ⟨n, hn⟩ : ∃ n, Hid (a.length = n) := ⟨_, rfl⟩
    have hn' : Hid (b.length = n) := Lib.hid (by rw [← hl, hn.out])
    clear hl
    rw [hn.out] at ha ha1 ⊢
    rw [hn'.out] at hb hb1 ⊢
    go_wp2_with fail
    go_loopw [5] (fun i wr => ∃ k : Nat, k ≤ n ∧ i = .int .i64 k ∧ Hid (a.take k = b.take k) ∧ Own w wr []) (fun i _ => n - (intOf i).toNat)
    case atStart => exact ⟨0, Nat.zero_le _, rfl, Lib.hid rfl, Own.start w⟩
    case round =>
      obtain ⟨k, hk, rfl, ht, H⟩ := hrel
      by_cases hlt : k < n
      · obtain ⟨x, hx⟩ := get_of_lt (l := a) (k := k) (by rw [hn.out]; exact hlt)
        obtain ⟨y, hy⟩ := get_of_lt (l := b) (k := k) (by rw [hn'.out]; exact hlt)
        have hiff := Lib.hid (take_eq_succ hx hy)
        obtain ⟨ba, oa, _, e, _⟩ := ha.some (by rw [nums_length, hn.out]; omega)
        cases e
        obtain ⟨bb, ob, _, e, _⟩ := hb.some (by rw [nums_length, hn'.out]; omega)
        cases e
        have HX := Lib.hid (nums_get hx)
        have HY := Lib.hid (nums_get hy)
        have hlx := (List.getElem?_eq_some_iff.1 hx).1
        have hly := (List.getElem?_eq_some_iff.1 hy).1
        clear hx hy
        obtain ⟨t, htt⟩ : ∃ t, (x != y) = t := ⟨_, rfl⟩
        have hte : Hid (t = !decide (x = y)) := Lib.hid (by rw [← htt]; by_cases h : x = y <;> simp [h])
        go_upto_region 6 with (fail)
        refine wp_region_calm (fun w1 => Own w w1 []) 9 (by kernel_rfl) (by kernel_rfl) H.drew ?_
        simp only [List.take_succ_cons, List.take_zero, List.drop_succ_cons, List.drop_zero]
        repeat
          refine calm_value (v := ?_) (by decide) rfl (fun σ w1 hS => ?_) ?_; rotate_left
          · have c0 := (ha.old hS).cell HX.out
            have c1 := (hb.old hS).cell HY.out
            first | (go_simp; rfl) | rfl
          simp only [Act.put, List.setIfInBounds_toArray, List.set_cons_zero, List.set_cons_succ]
        refine calm_nil ?_
        intro wd HD
        clear H
        clear htt
        cases t with
        | true =>
          have hne : Hid (decide (a = b) = false) := Lib.hid (by
            simp only [decide_eq_false_iff_not]
            rintro rfl
            have := hte.out
            rw [(hiff.out.1 rfl).2] at this
            simp at this)
          go_wp2
          go_ret
          exact ⟨_, rfl, by rw [hne.out]; rfl, HD⟩
        | false =>
          have ht2 : Hid (a.take (k + 1) = b.take (k + 1)) := Lib.hid (hiff.out.2 ⟨ht.out, by have := hte.out; simpa using this.symm⟩)
          go_wp2
          go_round
          case rel => exact ⟨k + 1, by omega, by go_num, ht2, HD⟩
          case measure => simp [intOf]; omega
      · obtain rfl : k = n := by omega
        have heq : Hid (decide (a = b) = true) := Lib.hid (by
          simp only [decide_eq_true_eq]
          have := ht.out
          rwa [List.take_of_length_le (by rw [hn.out]; exact Nat.le_refl _), List.take_of_length_le (by rw [hn'.out]; exact Nat.le_refl _)] at this)
        go_wp2
        go_ret
        exact ⟨_, rfl, by rw [heq.out]; rfl, H⟩
  · have hne : Hid (decide (a = b) = false) := Lib.hid (by simp only [decide_eq_false_iff_not]; rintro rfl; exact hl rfl)
    have h1 : ((a.length : Int) == (b.length : Int)) = false := by simp; omega
    clear hl
    go_wp2
    go_ret
    exact ⟨_, rfl, by rw [hne.out]; rfl, Own.start w⟩
end Go.Proofs.Ytfeamlbkogigkaa
