/-
  huff: the walks of the document's plain functions.
-/
import Derived.Test.YtfeamlbkogigkaaHufG
import Derived.Test.YtfeamlbkogigkaaSameI
namespace Go.Proofs.Ytfeamlbkogigkaa
open Go.RowKit

theorem getD_get {F : List Int} {i : Nat} (h : i < F.length) : F[i]? = some (F.getD i 0) := by
  rw [List.getD_eq_getElem?_getD, List.getElem?_eq_getElem h]; rfl
/-- An int that is read. -/
theorem rd_at {w w' : World} {n : Nat} {F : List Int} {a : Option Addr} {c : Nat} {ps : List Piece} (hr : Rd w 1 (.slice a n c) n (nums F)) (H : Own w w' ps) {i : Nat} (hi : i < n) : ∃ b o, a = some ⟨b, o, none⟩ ∧ w'.cell? ⟨b, o + i, none⟩ = some (.int .i64 (F.getD i 0)) :=
  rd_num hr H (by have := hr.len; rw [nums_length] at this; omega) rfl
theorem rd_len {w : World} {v : Value} {n : Nat} {F : List Int} (hr : Rd w 1 v n (nums F)) : F.length = n := by have := hr.len; rw [nums_length] at this; omega

theorem some_any {w0 w : World} {v : Value} {n : Nat} {F : List Int} (hr : Rd w0 1 v n (nums F)) :
    Calls Try.prog 10 #[v] w (Ret fun r w' => Rd w0 1 r (F.take 330).length (nums (F.take 330)) ∧ Own w w' []) := by
  have hl := rd_len hr
  obtain ⟨a, c, rfl, hc1, hc2⟩ := hr.shape
  have H := Own.start w
  by_cases h : 330 < n
  · have h2 := hr.take (k := 330) (by omega)
    have e : (nums F).take (330 * 1) = nums (F.take 330) := by simp [nums, List.map_take]
    rw [e] at h2
    have e2 : (F.take 330).length = 330 := by rw [List.length_take]; omega
    rw [e2]
    have HR := Lib.hid h2
    have hI : (330 : Int) < (n : Int) := by omega
    have hcI : (330 : Int) ≤ (c : Int) := by omega
    clear hr h2 e e2 hl
    go_enter Try.func10, Try.ntmps10
    go_wp2
    go_ret
    exact ⟨_, rfl, HR.out, H⟩
  · have e : F.take 330 = F := List.take_of_length_le (by omega)
    rw [e, hl]
    have HR := Lib.hid hr
    have hI : ¬ (330 : Int) < (n : Int) := by omega
    clear hr e hl
    go_enter Try.func10, Try.ntmps10
    go_wp2
    go_ret
    exact ⟨_, rfl, HR.out, H⟩

theorem rused_any {w : World} {v : Value} {n : Nat} {F : List Int} (hr : Rd w 1 v n (nums F)) (hn : n ≤ 1000000) :
    Calls Try.prog 14 #[v] w (Ret fun r w' => r = .int .i64 (usedF F).length ∧ Own w w' []) := by
  have hl := Lib.hid (rd_len hr)
  obtain ⟨a, c, rfl, hc1, hc2⟩ := hr.shape
  have HR := Lib.hid hr
  have H := Own.start w
  obtain ⟨Z, hZ⟩ : ∃ Z, Hid ((usedF F).length = Z) := ⟨_, rfl⟩
  rw [hZ.out]
  clear hr
  go_enter Try.func14, Try.ntmps14
  go_wp2_with fail
  go_loopw [3, 4] (fun s3 s4 wx => ∃ i : Nat, s4 = .int .i64 i ∧ i ≤ n ∧ s3 = .int .i64 (usedN F i).length ∧ Own w wx []) (fun _ s4 _ => n - (intOf s4).toNat)
  case atStart => exact ⟨0, by go_num, by omega, by simp [usedN], H⟩
  case round =>
    clear H
    obtain ⟨i, rfl, hi, rfl, H⟩ := hrel
    have hu := usedN_length F i
    by_cases hlt : i < n
    · obtain ⟨b, o, rfl, c1⟩ := rd_at HR.out H hlt
      have hus : usedN F (i + 1) = if 0 < F.getD i 0 then usedN F i ++ [(i : Int)] else usedN F i := rfl
      obtain ⟨x, hx⟩ : ∃ x, Hid (F.getD i 0 = x) := ⟨_, rfl⟩
      obtain ⟨q, hq⟩ : ∃ q, Hid ((usedN F i).length = q) := ⟨_, rfl⟩
      rw [hx.out] at c1 hus
      have hI : (i : Int) < (n : Int) := by omega
      by_cases hpos : 0 < x
      · have HU : Hid ((usedN F (i + 1)).length = q + 1) := Lib.hid (by rw [hus, if_pos hpos, List.length_append, hq.out]; rfl)
        rw [hq.out] at hu ⊢
        clear hus
        go_wp2_with fail
        go_roundw
        case rel => exact ⟨i + 1, by go_num, by omega, by rw [HU.out]; go_num, H⟩
        case measure => simp [intOf]; omega
      · have HU : Hid ((usedN F (i + 1)).length = q) := Lib.hid (by rw [hus, if_neg hpos, hq.out])
        rw [hq.out] at hu ⊢
        clear hus
        go_wp2_with fail
        go_roundw
        case rel => exact ⟨i + 1, by go_num, by omega, by rw [HU.out], H⟩
        case measure => simp [intOf]; omega
    · obtain rfl : i = n := by omega
      have e : Hid ((usedN F i).length = (usedF F).length) := Lib.hid (by unfold usedF; rw [hl.out])
      rw [e.out, hZ.out] at hu ⊢
      go_wp2
      go_ret
      exact ⟨_, rfl, rfl, H⟩

theorem wtF_bounds {x : Int} (h : 0 ≤ x ∧ x ≤ 15) : 0 ≤ wtF x ∧ wtF x ≤ 16384 := by
  unfold wtF
  split
  · have h1 : (2 : Int) ^ (15 - x.toNat) ≤ 2 ^ 14 := by
      have : (2 : Nat) ^ (15 - x.toNat) ≤ 2 ^ 14 := Nat.pow_le_pow_right (by omega) (by omega)
      exact_mod_cast this
    have h2 : (0 : Int) < 2 ^ (15 - x.toNat) := Int.pow_pos (by omega)
    omega
  · omega
theorem sum_take_succ {f : Int → Int} {F : List Int} {i : Nat} (h : i < F.length) : sumF f (F.take (i + 1)) = sumF f (F.take i) + f (F.getD i 0) := by
  rw [List.take_add_one, getD_get h, sumF_append]
  simp [sumF]
theorem sum_bounds {f : Int → Int} {F : List Int} {B : Int} (h : ∀ x ∈ F, 0 ≤ f x ∧ f x ≤ B) : 0 ≤ sumF f F ∧ sumF f F ≤ F.length * B := by
  refine ⟨sumF_nonneg fun x hx => (h x hx).1, ?_⟩
  rw [← sumF_const B F]
  exact sumF_mono fun x hx => (h x hx).2
set_option maxHeartbeats 800000 in
theorem rweight_any {w : World} {v : Value} {n : Nat} {F : List Int} (hr : Rd w 1 v n (nums F)) (hn : n ≤ 1000000) (hF : ∀ x ∈ F, 0 ≤ x ∧ x ≤ 15) :
    Calls Try.prog 15 #[v] w (Ret fun r w' => r = .int .i64 (sumF wtF F) ∧ Own w w' []) := by
  have hl := Lib.hid (rd_len hr)
  obtain ⟨a, c, rfl, hc1, hc2⟩ := hr.shape
  have HR := Lib.hid hr
  have HF := Lib.hid hF
  have H := Own.start w
  obtain ⟨Z, hZ⟩ : ∃ Z, Hid (sumF wtF F = Z) := ⟨_, rfl⟩
  rw [hZ.out]
  clear hr hF
  go_enter Try.func15, Try.ntmps15
  go_wp2_with fail
  go_loopw [3, 4] (fun s3 s4 wx => ∃ i : Nat, s4 = .int .i64 i ∧ i ≤ n ∧ s3 = .int .i64 (sumF wtF (F.take i)) ∧ Own w wx []) (fun _ s4 _ => n - (intOf s4).toNat)
  case atStart => exact ⟨0, by go_num, by omega, by simp [sumF], H⟩
  case round =>
    clear H
    obtain ⟨i, rfl, hi, rfl, H⟩ := hrel
    have hb := sum_bounds (f := wtF) (F := F.take i) (B := 16384) (fun x hx => wtF_bounds (HF.out x (List.mem_of_mem_take hx)))
    have hll : (F.take i).length ≤ 1000000 := by rw [List.length_take]; omega
    have hb1 : 0 ≤ sumF wtF (F.take i) := hb.1
    have hb2 : sumF wtF (F.take i) ≤ 16384000000 := by have := hb.2; omega
    clear hb hll
    by_cases hlt : i < n
    · have hs := sum_take_succ (f := wtF) (F := F) (i := i) (by have := hl.out; omega)
      have hx := HF.out (F.getD i 0) (by
        rw [List.getD_eq_getElem?_getD, List.getElem?_eq_getElem (by have := hl.out; omega)]
        exact List.getElem_mem _)
      obtain ⟨b, o, rfl, c1⟩ := rd_at HR.out H hlt
      generalize F.getD i 0 = x at *
      obtain ⟨q, hq⟩ : ∃ q, Hid (sumF wtF (F.take i) = q) := ⟨_, rfl⟩
      have hI : (i : Int) < (n : Int) := by omega
      obtain ⟨m, rfl⟩ : ∃ m : Nat, x = m := ⟨x.toNat, by omega⟩
      rw [hq.out] at hb1 hb2 hs ⊢
      have hwb := wtF_bounds hx
      by_cases hpos : 0 < (m : Int)
      · have hw : wtF m = 2 ^ (15 - m) := by unfold wtF; rw [if_pos hpos]; rfl
        have hd : IntKind.i64.wrap (15 - (m : Int)) = ((15 - m : Nat) : Int) := by rw [IntWalk.i64_in _ ⟨by omega, by omega⟩]; omega
        obtain ⟨d, hd2⟩ : ∃ d, d = 15 - m := ⟨_, rfl⟩
        rw [← hd2] at hd hw
        rw [hw] at hs hwb
        obtain ⟨p, hp⟩ : ∃ p : Int, (2 : Int) ^ d = p := ⟨_, rfl⟩
        rw [hp] at hs hwb
        have hd15 : min d 64 = d := by omega
        clear hw hd2
        have HP := Lib.hid hp
        clear hp
        have hsw : wrap64 (q + p) = q + p := IntWalk.wrap64_in _ ⟨by omega, by omega⟩
        have hpw : wrap64 ((2 : Int) ^ min d 64) = p := by rw [hd15, HP.out]; exact IntWalk.wrap64_in _ ⟨by omega, by omega⟩
        have HS := Lib.hid hs
        clear hs hd15
        go_wp2_with fail
        go_roundw
        case rel => exact ⟨i + 1, by go_num, by omega, by rw [HS.out], H⟩
        case measure => simp [intOf]; omega
      · have hw : wtF m = 0 := by unfold wtF; rw [if_neg hpos]
        rw [hw, Int.add_zero] at hs
        have HS := Lib.hid hs
        clear hs hw
        go_wp2_with fail
        go_roundw
        case rel => exact ⟨i + 1, by go_num, by omega, by rw [HS.out], H⟩
        case measure => simp [intOf]; omega
    · obtain rfl : i = n := by omega
      have e : Hid (F.take i = F) := Lib.hid (List.take_of_length_le (by have := hl.out; omega))
      rw [e.out, hZ.out] at hb1 hb2 ⊢
      go_wp2
      go_ret
      exact ⟨_, rfl, rfl, H⟩
end Go.Proofs.Ytfeamlbkogigkaa
