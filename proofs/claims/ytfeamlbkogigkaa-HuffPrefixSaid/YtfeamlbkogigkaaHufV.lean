/-
  huff: the walks of the document's Cost; of the examples.
-/
import Derived.Test.YtfeamlbkogigkaaHufU
namespace Go.Proofs.Ytfeamlbkogigkaa
open Go.RowKit

theorem cost_take_succ : ∀ (F l : List Int) (i : Nat), i < F.length → i < l.length → costF (F.take (i + 1)) (l.take (i + 1)) = costF (F.take i) (l.take i) + F.getD i 0 * l.getD i 0
  | [], _, i, h, _ => by simp at h
  | _ :: _, [], i, _, h => by simp at h
  | a :: F, b :: l, 0, _, _ => by simp [costF]
  | a :: F, b :: l, i + 1, h1, h2 => by
    rw [List.take_succ_cons, List.take_succ_cons, costF, cost_take_succ F l i (by simpa using h1) (by simpa using h2), List.take_succ_cons, List.take_succ_cons, costF]
    simp only [List.getD_cons_succ]
    omega
theorem cost_bounds : ∀ (F l : List Int), (∀ x ∈ F, 0 ≤ x ∧ x ≤ 4294967296) → (∀ x ∈ l, 0 ≤ x ∧ x ≤ 15) → 0 ≤ costF F l ∧ costF F l ≤ F.length * 64424509440
  | [], l, _, _ => by simp [costF]
  | _ :: _, [], _, _ => by simp only [costF, List.length_cons]; omega
  | a :: F, b :: l, h1, h2 => by
    have ha := h1 a (by simp)
    have hb := h2 b (by simp)
    have ih := cost_bounds F l (fun x hx => h1 x (by simp [hx])) (fun x hx => h2 x (by simp [hx]))
    have m1 := Int.mul_nonneg ha.1 hb.1
    have m2 : a * b ≤ 4294967296 * 15 := Int.mul_le_mul ha.2 hb.2 hb.1 (by omega)
    rw [costF, List.length_cons]
    omega

set_option maxHeartbeats 1600000 in
theorem rcost_any {w : World} {v u : Value} {n : Nat} {F l : List Int} (hr : Rd w 1 v n (nums F)) (hu : Rd w 1 u n (nums l)) (hn : n ≤ 1000) (hF : ∀ x ∈ F, 0 ≤ x ∧ x ≤ 4294967296) (hL : ∀ x ∈ l, 0 ≤ x ∧ x ≤ 15) :
    Calls Try.prog 17 #[v, u] w (Ret fun r w' => r = .int .i64 (costF F l) ∧ Own w w' []) := by
  have hl := Lib.hid (rd_len hr)
  have hl2 := Lib.hid (rd_len hu)
  obtain ⟨a, c, rfl, hc1, hc2⟩ := hr.shape
  obtain ⟨a', c', rfl, hc1', hc2'⟩ := hu.shape
  have HR := Lib.hid hr
  have HU := Lib.hid hu
  have H := Own.start w
  obtain ⟨Z, hZ⟩ : ∃ Z, Hid (costF F l = Z) := ⟨_, rfl⟩
  rw [hZ.out]
  have HB := Lib.hid (fun i => cost_bounds (F.take i) (l.take i) (fun x hx => hF x (List.mem_of_mem_take hx)) (fun x hx => hL x (List.mem_of_mem_take hx)))
  have HF := Lib.hid hF
  have HL := Lib.hid hL
  clear hr hu hF hL
  go_enter Try.func17, Try.ntmps17
  go_wp2_with fail
  go_loopw [5, 6] (fun s5 s6 wx => ∃ i : Nat, s6 = .int .i64 i ∧ i ≤ n ∧ s5 = .int .i64 (costF (F.take i) (l.take i)) ∧ Own w wx []) (fun _ s6 _ => n - (intOf s6).toNat)
  case atStart => exact ⟨0, by go_num, by omega, by simp [costF], H⟩
  case round =>
    clear H
    obtain ⟨i, rfl, hi, rfl, H⟩ := hrel
    by_cases hlt : i < n
    · have hI : (i : Int) < (n : Int) := by omega
      obtain ⟨b1, o1, rfl, -⟩ := rd_at HR.out H hlt
      obtain ⟨b2, o2, rfl, -⟩ := rd_at HU.out H hlt
      have g : ∀ (ps' : List Piece) (w' : World), Own w w' ps' → w'.cell? ⟨b1, o1 + i, none⟩ = some (.int .i64 (F.getD i 0)) ∧ w'.cell? ⟨b2, o2 + i, none⟩ = some (.int .i64 (l.getD i 0)) := fun ps' w' h => by
        obtain ⟨_, _, he, h1⟩ := rd_at HR.out h hlt
        obtain ⟨_, _, he2, h2⟩ := rd_at HU.out h hlt
        cases he; cases he2
        exact ⟨h1, h2⟩
      have hs := cost_take_succ F l i (by have := hl.out; omega) (by have := hl2.out; omega)
      have hb0 := HB.out i
      have hb1 := HB.out (i + 1)
      have hf1 : (F.take i).length ≤ 1000 := by rw [List.length_take]; omega
      have hf2 : (F.take (i + 1)).length ≤ 1000 := by rw [List.length_take]; omega
      have hx := HF.out (F.getD i 0) (by
        rw [List.getD_eq_getElem?_getD, List.getElem?_eq_getElem (by have := hl.out; omega)]
        exact List.getElem_mem _)
      have hy := HL.out (l.getD i 0) (by
        rw [List.getD_eq_getElem?_getD, List.getElem?_eq_getElem (by have := hl2.out; omega)]
        exact List.getElem_mem _)
      generalize F.getD i 0 = x at *
      generalize l.getD i 0 = y at *
      obtain ⟨q, hq⟩ : ∃ q, Hid (costF (F.take i) (l.take i) = q) := ⟨_, rfl⟩
      obtain ⟨q2, hq2⟩ : ∃ q2, Hid (costF (F.take (i + 1)) (l.take (i + 1)) = q2) := ⟨_, rfl⟩
      rw [hq.out] at hs hb0 ⊢
      rw [hq2.out] at hs hb1
      obtain ⟨p, hp⟩ : ∃ p, x * y = p := ⟨_, rfl⟩
      rw [hp] at hs
      have hpw : IntKind.i64.wrap (x * y) = p := by rw [hp]; exact IntWalk.i64_in _ ⟨by omega, by omega⟩
      have hqw : IntKind.i64.wrap (q + p) = q2 := by rw [← hs]; exact IntWalk.i64_in _ ⟨by omega, by omega⟩
      have G := Lib.hid g
      clear g hs hb0 hb1 hf1 hf2 hx hy hp
      go_upto_region 5 with (fail)
      refine wp_region_calm (fun w1 => Own w w1 []) 11 (by kernel_rfl) (by kernel_rfl) H.drew ?_
      simp only [List.take_succ_cons, List.take_zero, List.drop_succ_cons, List.drop_zero]
      repeat
        first
        | (refine calm_value (v := ?_) (by decide) rfl (fun σ w1 hS => ?_) ?_
           rotate_left
           · obtain ⟨c0, c1⟩ := G.out _ _ hS
             first | (go_simp; rfl) | rfl
           simp only [Act.put, List.setIfInBounds_toArray, List.set_cons_zero, List.set_cons_succ])
        | (refine calm_skip (by decide) rfl ?_
           simp only [Act.put, List.setIfInBounds_toArray, List.set_cons_zero, List.set_cons_succ])
      refine calm_nil ?_
      intro wd HD
      clear H
      go_wp2_with fail
      go_roundw
      case rel => exact ⟨i + 1, by go_num, by omega, by rw [hq2.out], HD⟩
      case measure => simp [intOf]; omega
    · obtain rfl : i = n := by omega
      have hI : ¬ (i : Int) < (i : Int) := by omega
      rw [List.take_of_length_le (by have := hl.out; omega), List.take_of_length_le (by have := hl2.out; omega), hZ.out]
      go_wp2
      go_ret
      exact ⟨_, rfl, rfl, H⟩

/-! ### the examples -/
theorem ex1 : errF [1, 1, 2, 4] 15 = 0 ∧ resF [1, 1, 2, 4] 15 = [3, 3, 2, 1] := by decide +kernel
theorem ex2 : errF [1, 1, 2, 4] 2 = 0 ∧ resF [1, 1, 2, 4] 2 = [2, 2, 2, 2] := by decide +kernel
theorem ex3 : cerrF [3, 3, 2, 1] = 0 ∧ cresF [3, 3, 2, 1] = [6, 7, 2, 0] := by decide +kernel
end Go.Proofs.Ytfeamlbkogigkaa
