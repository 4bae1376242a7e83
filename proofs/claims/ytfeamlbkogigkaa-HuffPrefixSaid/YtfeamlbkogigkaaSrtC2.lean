/-
  The stable sort of slices of coins: the walk of rotate. (Written by tools/srt.py.)
-/
import Derived.Test.YtfeamlbkogigkaaSrtC1
namespace Go.Proofs.Ytfeamlbkogigkaa
open Go.RowKit
namespace SC
theorem split_at {α : Type} (l : List α) (n : Nat) (h : n ≤ l.length) : ∃ a b, l = a ++ b ∧ a.length = n := ⟨l.take n, l.drop n, (List.take_append_drop n l).symm, by simp; omega⟩
section
variable {w0 w : World} {ps : List Piece}
set_option maxRecDepth 100000 in
set_option maxHeartbeats 3200000 in
theorem rotate_any {g c N : Nat} {p x y q : List Coin} {a m b : Nat} (cmp : Value) (ha : a = p.length) (hm : m = a + x.length) (hb : b = m + y.length) (hx0 : 0 < x.length) (hy0 : 0 < y.length) (hN : N = (p ++ x ++ y ++ q).length) (hNb : N ≤ 1000000)
    (H : Own w0 w (slc 65 2 (.slice (some ⟨g, 0, none⟩) N c) N (rows ce (p ++ x ++ y ++ q)) :: ps)) :
    Calls Try.prog 56 #[.slice (some ⟨g, 0, none⟩) N c, .int .i64 a, .int .i64 m, .int .i64 b, cmp] w (Ret fun _ w' => Own w0 w' (slc 65 2 (.slice (some ⟨g, 0, none⟩) N c) N (rows ce (p ++ y ++ x ++ q)) :: ps)) := by
  obtain ⟨T, hT⟩ : ∃ T, Hid (T = p ++ y ++ x ++ q) := ⟨_, Lib.hid rfl⟩
  rw [← hT.out]
  have hbN : b ≤ N := by rw [hN]; simp only [List.length_append]; omega
  obtain ⟨i0, hi0⟩ : ∃ i, Hid (x.length = i) := ⟨_, rfl⟩
  obtain ⟨j0, hj0⟩ : ∃ j, Hid (y.length = j) := ⟨_, rfl⟩
  rw [hi0.out] at hx0 hm
  rw [hj0.out] at hy0 hb
  have hNn : Hid ((p ++ x ++ y ++ q).length = N) := Lib.hid hN.symm
  have HP := Lib.hid ha
  have ham : m = a + i0 := hm
  have hbm : b = m + j0 := hb
  clear ha hN
  go_enter Try.func56, Try.ntmps56
  have e1 : ((m : Int) - (a : Int)) = (i0 : Int) := by omega
  have e2 : ((b : Int) - (m : Int)) = (j0 : Int) := by omega
  have hst : a + i0 = m ∧ m + j0 ≤ N := ⟨by omega, by omega⟩
  have HST := Lib.hid hst
  have ham2 : a ≤ m := by omega
  have hmb2 : m ≤ b := by omega
  have hbN2 : b ≤ N := by omega
  clear ham hm hst hb hbN hbm
  go_upto_region 2 with (fail)
  go_loopw [10, 11] (fun s10 s11 wx => ∃ (i j pl : Nat) (X Y P Q : List Coin), s10 = .int .i64 i ∧ s11 = .int .i64 j ∧ 1 ≤ i ∧ 1 ≤ j ∧ pl + i = m ∧ m + j ≤ N ∧ Hid (X.length = i) ∧ Hid (Y.length = j) ∧ Hid (P.length = pl) ∧ Hid ((P ++ X ++ Y ++ Q).length = N) ∧ Hid (T = P ++ Y ++ X ++ Q) ∧ Own w0 wx (slc 65 2 (.slice (some ⟨g, 0, none⟩) N c) N (rows ce (P ++ X ++ Y ++ Q)) :: ps)) (fun s10 s11 _ => (intOf s10).toNat + (intOf s11).toNat)
  case atStart => exact ⟨i0, j0, a, x, y, p, q, by rw [← e1]; try go_num, by rw [← e2]; try go_num, by omega, by omega, HST.out.1, HST.out.2, hi0, hj0, Lib.hid HP.out.symm, hNn, hT, H⟩
  case round =>
    clear H hNn hT HP hi0 hj0 e1 e2
    obtain ⟨i, j, pl, X, Y, P, Q, rfl, rfl, hi, hj, hpl, hmj, hX, hY, hP, hLn, hT, H⟩ := hrel
    have em : ((m : Int) - (i : Int)) = (pl : Int) := by omega
    have hN1 : (m : Int) + (j : Int) ≤ (N : Int) := by omega
    rcases Nat.lt_trichotomy i j with hij | hij | hij
    · -- the first part is the shorter one
      obtain ⟨d, rfl⟩ : ∃ d, j = d + i := ⟨j - i, by omega⟩
      obtain ⟨bd, hbd⟩ : ∃ bd, bd = m + d := ⟨_, rfl⟩
      have eb : ((m : Int) + ((d + i : Nat) : Int) - (i : Int)) = (bd : Int) := by omega
      have eb' : ((m : Int) + ((d : Int) + (i : Int)) - (i : Int)) = (bd : Int) := by omega
      have ed : ((d : Int) + (i : Int) - (i : Int)) = (d : Int) := by omega
      obtain ⟨Y1, Y2, hYs, hY1⟩ := split_at Y d (by rw [hY.out]; omega)
      subst hYs
      have hY2 : Y2.length = i := by have := hY.out; rw [List.length_append] at this; omega
      have hne : ((i : Int) == ((d : Int) + (i : Int))) = false := by simp; omega
      have hng : ¬ ((d : Int) + (i : Int) < (i : Int)) := by omega
      have el1 : P ++ X ++ (Y1 ++ Y2) ++ Q = P ++ X ++ Y1 ++ Y2 ++ Q := by simp
      rw [el1] at H
      have hLn' : N = (P ++ X ++ Y1 ++ Y2 ++ Q).length := by rw [← el1]; exact hLn.out.symm
      have hNb' : N ≤ 1000000 := hNb
      have hsw := swap_any (w0 := w0) (w := wr) (ps := ps) (g := g) (c := c) (N := N) (p := P) (x := X) (m := Y1) (y := Y2) (q := Q) (a := pl) (b := bd) (n := i) cmp (by rw [hP.out]) (by rw [hX.out, hY1, hbd]; omega) (by rw [hX.out]) (by rw [hY2, hX.out]) hLn' hNb H
      have HSW := Lib.hid hsw
      have el2 : P ++ Y2 ++ Y1 ++ X ++ Q = P ++ Y2 ++ Y1 ++ (X ++ Q) := by simp
      have hT' : Hid (T = P ++ Y1 ++ Y2 ++ (X ++ Q)) := Lib.hid (by rw [hT.out]; simp)
      have hX' : Hid (Y2.length = i) := Lib.hid hY2
      have hY' : Hid (Y1.length = d) := Lib.hid hY1
      have hLn2 : Hid ((P ++ Y2 ++ Y1 ++ (X ++ Q)).length = N) := Lib.hid (by rw [hLn']; simp only [List.length_append]; omega)
      rw [el2] at HSW
      clear hsw el1 el2 hLn' hY1 hY2 hT hX hY hLn hbd
      go_wp2_with fail
      refine HSW.out.mono ?_
      rintro e w3 ⟨_, rfl, H3⟩
      clear HSW H
      go_wp2
      go_roundw
      case rel => exact ⟨i, d, pl, Y2, Y1, P, X ++ Q, rfl, by go_num, by omega, by omega, hpl, by omega, hX', hY', hP, hLn2, hT', H3⟩
      case measure => simp [intOf]; omega
    · subst hij
      have hLn' : N = (P ++ X ++ [] ++ Y ++ Q).length := by have := hLn.out; rw [← this]; simp
      have H' : Own w0 wr (slc 65 2 (.slice (some ⟨g, 0, none⟩) N c) N (rows ce (P ++ X ++ [] ++ Y ++ Q)) :: ps) := by simpa using H
      have hsw := swap_any (w0 := w0) (w := wr) (ps := ps) (g := g) (c := c) (N := N) (p := P) (x := X) (m := []) (y := Y) (q := Q) (a := pl) (b := m) (n := i) cmp (by rw [hP.out]) (by rw [hX.out]; simp; omega) (by rw [hX.out]) (by rw [hY.out, hX.out]) hLn' hNb H'
      have HSW := Lib.hid hsw
      clear hsw H' hLn'
      go_wp2_with fail
      refine HSW.out.mono ?_
      rintro e w3 ⟨_, rfl, H3⟩
      clear HSW H
      go_wp2
      go_end0
      exact ⟨_, rfl, by rw [hT.out]; simpa using H3⟩
    · obtain ⟨d, rfl⟩ : ∃ d, i = j + d := ⟨i - j, by omega⟩
      obtain ⟨X1, X2, hXs, hX1⟩ := split_at X j (by rw [hX.out]; omega)
      subst hXs
      have hX2 : X2.length = d := by have := hX.out; rw [List.length_append] at this; omega
      have em' : ((m : Int) - ((j : Int) + (d : Int))) = (pl : Int) := by omega
      have ed : ((j : Int) + (d : Int) - (j : Int)) = (d : Int) := by omega
      have hne : (((j : Int) + (d : Int)) == (j : Int)) = false := by simp; omega
      have hng : ((j : Int) < (j : Int) + (d : Int)) := by omega
      have el1 : P ++ (X1 ++ X2) ++ Y ++ Q = P ++ X1 ++ X2 ++ Y ++ Q := by simp
      rw [el1] at H
      have hLn' : N = (P ++ X1 ++ X2 ++ Y ++ Q).length := by rw [← el1]; exact hLn.out.symm
      have hsw := swap_any (w0 := w0) (w := wr) (ps := ps) (g := g) (c := c) (N := N) (p := P) (x := X1) (m := X2) (y := Y) (q := Q) (a := pl) (b := m) (n := j) cmp (by rw [hP.out]) (by rw [hX1, hX2]; omega) (by rw [hX1]) (by rw [hY.out, hX1]) hLn' hNb H
      have HSW := Lib.hid hsw
      have el2 : P ++ Y ++ X2 ++ X1 ++ Q = (P ++ Y) ++ X2 ++ X1 ++ Q := by simp
      have hT' : Hid (T = (P ++ Y) ++ X1 ++ X2 ++ Q) := Lib.hid (by rw [hT.out]; simp)
      have hX' : Hid (X2.length = d) := Lib.hid hX2
      have hY' : Hid (X1.length = j) := Lib.hid hX1
      have hP' : Hid ((P ++ Y).length = pl + j) := Lib.hid (by rw [List.length_append, hP.out, hY.out])
      have hLn2 : Hid (((P ++ Y) ++ X2 ++ X1 ++ Q).length = N) := Lib.hid (by rw [hLn']; simp only [List.length_append]; omega)
      clear hsw el1 el2 hLn' hX1 hX2 hT hX hY hLn hP
      go_wp2_with fail
      refine HSW.out.mono ?_
      rintro e w3 ⟨_, rfl, H3⟩
      clear HSW H
      go_wp2
      go_roundw
      case rel => exact ⟨d, j, pl + j, X2, X1, P ++ Y, Q, by go_num, rfl, by omega, by omega, by omega, by omega, hX', hY', hP', hLn2, hT', H3⟩
      case measure => simp [intOf]; omega
end
end SC
end Go.Proofs.Ytfeamlbkogigkaa
