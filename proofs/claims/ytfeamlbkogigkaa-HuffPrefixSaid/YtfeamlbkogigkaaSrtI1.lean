/-
  The stable sort of slices of ints: the walks of swapRange, rotate. (Written by tools/srt.py.)
-/
import Derived.Test.YtfeamlbkogigkaaSrtP
import Derived.Test.YtfeamlbkogigkaaReg
import Derived.Carry
import Derived.Deep.DeepCutAuto
import Derived.Deep.CutBlock
import Derived.Deep.LoopGhost
import Derived.WalkLawsBesides
import Derived.WalkSpells
import Derived.BigQuiet
import Derived.Deep.QuietTactic
import Derived.Test.YtfeamlbkogigkaaRows
namespace Go.Proofs.Ytfeamlbkogigkaa
open Go.RowKit

namespace SI
def ie (x : Int) : List Value := [.int .i64 x]
theorem e_length (x : Int) : (ie x).length = 1 := rfl
theorem e_one (x : Int) : ∀ u ∈ ie x, u.oneCell' = true := by intro u hu; simp [ie] at hu; subst hu; rfl
/-- A slice of them. -/
abbrev Sl (v : Value) (l : List Int) : Piece := slc 3 1 v l.length (rows ie l)
theorem el {w : World} {b c i n : Nat} {l : List Int} {x : Int} (h : Rd w 1 (.slice (some ⟨b, 0, none⟩) n c) n (rows ie l)) (hx : l[i]? = some x) :
    w.cell? ⟨b, i, none⟩ = some (.int .i64 x) ∧ True := by
  have h0 := h.cell ((rows_get ie e_length hx 0 (by omega)).trans rfl)
  rw [Nat.zero_add, Nat.mul_one] at h0
  exact ⟨h0, trivial⟩
theorem set_rows {l : List Int} {i : Nat} (hi : i < l.length) (y : Int) : (rows ie l).take (i * 1) ++ ie y ++ (rows ie l).drop (i * 1 + 1) = rows ie (l.set i y) := (rows_set ie e_length hi y).symm
theorem set_swap {α : Type} (u v w : List α) (x y : α) {i j : Nat} (hi : i = u.length) (hj : j = u.length + 1 + v.length) :
    ((u ++ x :: (v ++ y :: w)).set i y).set j x = u ++ y :: (v ++ x :: w) := by
  subst hi hj
  rw [List.set_append_right _ _ (Nat.le_refl _), Nat.sub_self, List.set_cons_zero, List.set_append_right _ _ (by omega), show u.length + 1 + v.length - u.length = v.length + 1 by omega, List.set_cons_succ, List.set_append_right _ _ (Nat.le_refl _), Nat.sub_self, List.set_cons_zero]
theorem get_mid {α : Type} (u w : List α) (x : α) {i : Nat} (hi : i = u.length) : (u ++ x :: w)[i]? = some x := by
  subst hi
  rw [List.getElem?_append_right (Nat.le_refl _), Nat.sub_self]; rfl

section
variable {w0 w : World} {ps : List Piece}
set_option maxRecDepth 100000 in
set_option maxHeartbeats 3200000 in
theorem swap_any {g c N : Nat} {p x m y q : List Int} {a b n : Nat} (cmp : Value) (ha : a = p.length) (hb : b = a + x.length + m.length) (hn : n = x.length) (hy : y.length = x.length) (hN : N = (p ++ x ++ m ++ y ++ q).length) (hNb : N ≤ 1000000)
    (H : Own w0 w (slc 3 1 (.slice (some ⟨g, 0, none⟩) N c) N (rows ie (p ++ x ++ m ++ y ++ q)) :: ps)) :
    Calls Try.prog 55 #[.slice (some ⟨g, 0, none⟩) N c, .int .i64 a, .int .i64 b, .int .i64 n, cmp] w (Ret fun _ w' => Own w0 w' (slc 3 1 (.slice (some ⟨g, 0, none⟩) N c) N (rows ie (p ++ y ++ m ++ x ++ q)) :: ps)) := by
  have hN1 : N = a + n + m.length + n + q.length := by rw [hN]; simp only [List.length_append]; omega
  have hbn : b = a + n + m.length := by omega
  have HX := Lib.hid hn
  have HY := Lib.hid hy
  have HP := Lib.hid ha
  have HB := Lib.hid hbn
  have HN1 := Lib.hid hN1
  have hab : a + n ≤ b := by omega
  have hbN : b + n ≤ N := by omega
  have hNc : N ≤ c := by obtain ⟨_, _, e, h1, _⟩ := H.rd.shape; cases e; exact h1
  have hc2 : c ≤ 9223372036854775807 := by obtain ⟨_, _, e, _, h1⟩ := H.rd.shape; cases e; exact h1
  clear ha hb hn hy hN hbn hN1
  go_enter Try.func55, Try.ntmps55
  go_wp2_with fail
  go_loopw [10] (fun s10 wx => ∃ (i : Nat) (x1 x2 y1 y2 : List Int), i ≤ n ∧ s10 = .int .i64 i ∧ Hid (x = x1 ++ x2) ∧ Hid (y = y1 ++ y2) ∧ Hid (x1.length = i) ∧ Hid (y1.length = i) ∧ Own w0 wx (slc 3 1 (.slice (some ⟨g, 0, none⟩) N c) N (rows ie (p ++ y1 ++ x2 ++ m ++ x1 ++ y2 ++ q)) :: ps)) (fun s10 _ => n - (intOf s10).toNat)
  case atStart => exact ⟨0, [], x, [], y, by omega, rfl, Lib.hid rfl, Lib.hid rfl, Lib.hid rfl, Lib.hid rfl, by simpa using H⟩
  case round =>
    clear H
    obtain ⟨i, x1, x2, y1, y2, hi, rfl, hx, hy, hx1, hy1, H⟩ := hrel
    by_cases hlt : i < n
    · obtain ⟨u, x3, hx2⟩ : ∃ u x3, x2 = u :: x3 := by
        cases x2 with
        | nil => exfalso; have h1 := hx.out; have h2 := HX.out; have h3 := hx1.out; rw [h1] at h2; simp at h2; omega
        | cons u x3 => exact ⟨u, x3, rfl⟩
      obtain ⟨v, y3, hy2⟩ : ∃ v y3, y2 = v :: y3 := by
        cases y2 with
        | nil => exfalso; have h1 := hy.out; have h2 := HX.out; have h3 := hy1.out; have h4 := HY.out; rw [h1] at h4; simp at h4; omega
        | cons v y3 => exact ⟨v, y3, rfl⟩
      subst hx2 hy2
      have el1 : p ++ y1 ++ u :: x3 ++ m ++ x1 ++ v :: y3 ++ q = (p ++ y1) ++ u :: ((x3 ++ m ++ x1) ++ v :: (y3 ++ q)) := by simp
      rw [el1] at H
      have hia : a + i = (p ++ y1).length := by rw [List.length_append, hy1.out, HP.out]
      have hxl : x.length = i + (x3.length + 1) := by rw [hx.out, List.length_append, hx1.out]; simp
      have hib : b + i = (p ++ y1).length + 1 + (x3 ++ m ++ x1).length := by
        have h1 := HX.out
        have h2 := HB.out
        have h3 := hx1.out
        have h4 := HP.out
        have h5 := hy1.out
        simp only [List.length_append]
        omega
      have hLn : ((p ++ y1) ++ u :: ((x3 ++ m ++ x1) ++ v :: (y3 ++ q))).length = N := by
        have h1 := HX.out
        have h2 := HN1.out
        have h3 := hx1.out
        have h4 := HP.out
        have h5 := hy1.out
        have h6 := HY.out
        rw [hy.out] at h6
        simp only [List.length_append, List.length_cons] at h6 ⊢
        omega
      have hg1 : ((p ++ y1) ++ u :: ((x3 ++ m ++ x1) ++ v :: (y3 ++ q)))[a + i]? = some u := get_mid _ _ _ hia
      have hg2 : ((p ++ y1) ++ u :: ((x3 ++ m ++ x1) ++ v :: (y3 ++ q)))[b + i]? = some v := by
        have : (p ++ y1) ++ u :: ((x3 ++ m ++ x1) ++ v :: (y3 ++ q)) = ((p ++ y1) ++ u :: (x3 ++ m ++ x1)) ++ v :: (y3 ++ q) := by simp
        rw [this]
        exact get_mid _ _ _ (by rw [hib]; simp only [List.length_append, List.length_cons]; omega)
      have hsw := set_swap (p ++ y1) (x3 ++ m ++ x1) (y3 ++ q) u v hia hib
      obtain ⟨L, hL⟩ : ∃ L, Hid ((p ++ y1) ++ u :: ((x3 ++ m ++ x1) ++ v :: (y3 ++ q)) = L) := ⟨_, rfl⟩
      rw [hL.out] at H hg1 hg2 hsw hLn
      have HG1 := Lib.hid hg1
      have HG2 := Lib.hid hg2
      have HLN := Lib.hid hLn
      have e1 : (rows ie L).take ((a + i) * 1) ++ ie v ++ (rows ie L).drop ((a + i) * 1 + 1) = rows ie (L.set (a + i) v) := set_rows (by rw [hLn]; omega) v
      have e2 : (rows ie (L.set (a + i) v)).take ((b + i) * 1) ++ ie u ++ (rows ie (L.set (a + i) v)).drop ((b + i) * 1 + 1) = rows ie (p ++ (y1 ++ [v]) ++ x3 ++ m ++ (x1 ++ [u]) ++ y3 ++ q) := by
        rw [set_rows (by rw [List.length_set, hLn]; omega) u, hsw]
        simp
      have E1 := Lib.hid e1
      have E2 := Lib.hid e2
      have hX' : Hid (x = (x1 ++ [u]) ++ x3) := Lib.hid (by rw [hx.out]; simp)
      have hY' : Hid (y = (y1 ++ [v]) ++ y3) := Lib.hid (by rw [hy.out]; simp)
      have hx1' : Hid ((x1 ++ [u]).length = i + 1) := Lib.hid (by rw [List.length_append, hx1.out]; rfl)
      have hy1' : Hid ((y1 ++ [v]).length = i + 1) := Lib.hid (by rw [List.length_append, hy1.out]; rfl)
      have haw : IntKind.i64.wrap ((a : Int) + (i : Int)) = (a : Int) + (i : Int) := IntWalk.i64_in _ ⟨by omega, by omega⟩
      have hbw : IntKind.i64.wrap ((b : Int) + (i : Int)) = (b : Int) + (i : Int) := IntWalk.i64_in _ ⟨by omega, by omega⟩
      have haT : ((a : Int) + (i : Int)).toNat = a + i := by omega
      have hbT : ((b : Int) + (i : Int)).toNat = b + i := by omega
      have haI : (a : Int) + (i : Int) < (N : Int) := by omega
      have hbI : (b : Int) + (i : Int) < (N : Int) := by omega
      clear hg1 hg2 hsw hLn e1 e2 el1 hia hib hxl hL
      go_upto_region 3 with (fail)
      refine wp_region_pres (fun _ w1 => Own w0 w1 (slc 3 1 (.slice (some ⟨g, 0, none⟩) N c) N (rows ie L) :: ps)) 20 [] [4, 5, 6, 7] (by kernel_rfl) (by kernel_rfl) (by kernel_rfl) (by kernel_rfl) (fun _ _ d _ _ h => by cases d <;> exact h) ⟨_, _, rfl, fun w => (by first | rfl | (go_simp; rfl)), _, _, rfl, fun w => (by first | rfl | (go_simp; rfl)), _, _, rfl, fun w => (by first | rfl | (go_simp; rfl)), _, _, rfl, fun w => (by first | rfl | (go_simp; rfl)), rfl⟩ H.drew ?_
      simp only [List.take_succ_cons, List.take_zero, List.drop_succ_cons, List.drop_zero]
      repeat
        first
        | (refine calm_value (v := ?_) (by decide) rfl (fun σ w1 hS => ?_) ?_
           rotate_left
           · obtain ⟨c1, c1'⟩ := el hS.rd HG1.out; obtain ⟨c2, c2'⟩ := el hS.rd HG2.out
             first | (go_simp; rfl) | rfl
           simp only [Act.put, List.setIfInBounds_toArray, List.set_cons_zero, List.set_cons_succ])
        | (refine calm_skip (by decide) rfl ?_
           simp only [Act.put, List.setIfInBounds_toArray, List.set_cons_zero, List.set_cons_succ])
      refine calm_nil ?_
      intro σ2 wd2 _ H2
      simp only [putNew, List.foldl_nil]
      clear H
      go_wp2_with (first
        | (refine wpList_store_elem rfl _ _ rfl (i := a + i) (by first | rfl | (rw [Nat.mul_one]; rfl)) H2 (ie v) rfl (by kernel_rfl) rfl (by omega) (e_one v) ?_; clear H2; intro w5 H; rw [E1.out] at H)
        | (refine wpList_store_elem rfl _ _ rfl (i := b + i) (by first | rfl | (rw [Nat.mul_one]; rfl)) H (ie u) rfl (by kernel_rfl) rfl (by omega) (e_one u) ?_; clear H; intro w6 H; rw [E2.out] at H))
      go_roundw
      case rel => exact ⟨i + 1, x1 ++ [u], x3, y1 ++ [v], y3, by omega, by go_num, hX', hY', hx1', hy1', H⟩
      case measure => simp [intOf]; omega
    · obtain rfl : i = n := by omega
      have hx2 : x2 = [] := by
        have h1 := HX.out; have h2 := hx1.out
        rw [hx.out, List.length_append] at h1
        exact List.eq_nil_of_length_eq_zero (by omega)
      have hy2 : y2 = [] := by
        have h1 := HX.out; have h2 := hy1.out; have h3 := HY.out
        rw [hy.out, List.length_append] at h3
        exact List.eq_nil_of_length_eq_zero (by omega)
      subst hx2 hy2
      have ex : x1 = x := by rw [hx.out, List.append_nil]
      have ey : y1 = y := by rw [hy.out, List.append_nil]
      have e : p ++ y1 ++ [] ++ m ++ x1 ++ [] ++ q = p ++ y ++ m ++ x ++ q := by rw [ex, ey]; simp
      rw [e] at H
      clear e ex ey
      go_wp2
      go_end0
      exact ⟨_, rfl, H⟩
end
end SI
end Go.Proofs.Ytfeamlbkogigkaa
