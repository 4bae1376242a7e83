/-
  net: the walk of the chapter's example.
-/
import Derived.Test.YtnpflnplpipipaaNetE
namespace Go.Proofs.Ytnpflnplpipipaa
open Go.RowKit Go.Maps

def bA : ByteArray := ⟨#[97]⟩
def bB : ByteArray := ⟨#[98]⟩
set_option maxRecDepth 100000 in
set_option maxHeartbeats 3200000 in
theorem awake_any (w : World) : Calls Try.prog 6 #[] w (Ret fun v w' => v = .bool true ∧ Own w w' []) := by
  go_enter Try.func6, Try.ntmps6
  go_wp2_with fail
  refine (netnew_any (Own.start w) 0 0).mono ?_
  rintro e w1 ⟨_, rfl, g, rfl, H⟩
  have e0 : clipI 0 0 64 = 0 := by decide
  rw [e0, if_neg (by omega)] at H
  clear e0
  go_wp2_with fail
  have hr := ((H.alloc (.cells #[.bool true, .int .i64 0, .int .i64 0, .bool false, .int .i64 2, .int .i64 1] 30)).slc_mk (xs := rows fcell [⟨true, 0, 0⟩, ⟨false, 2, 1⟩]) (n := 2) (size := 3) rfl (Nat.le_refl _) (by decide) rfl rfl).rd
  refine (netfates_any (H.alloc' _) [⟨true, 0, 0⟩, ⟨false, 2, 1⟩] hr (by simp)).mono ?_
  rintro e w2 ⟨_, rfl, H2⟩
  clear H hr
  have hs1 := netsend_any H2 (now := 0) (by omega) 0 1 (by constructor <;> decide) (by constructor <;> decide) bA (by omega) (by omega) (by omega) (by omega) (by omega) (by simp) (by simp) (by simp) (by omega) (by simp)
  have e1 : boundF 0 0 0 (fateOf [⟨true, 0, 0⟩, ⟨false, 2, 1⟩]) = ⟨true, 0, 0⟩ := by decide
  simp only [List.nil_append] at hs1
  simp only [e1, lateF, itemsOf, if_true, List.tail_cons, List.length_nil, List.append_nil, Nat.zero_add, Nat.add_zero] at hs1
  have HS1 := Lib.hid hs1
  clear hs1 H2
  go_wp2_with fail
  refine HS1.out.mono ?_
  rintro e w3 ⟨_, rfl, rfl, H⟩
  have hs2 := netsend_any H (now := 0) (by omega) 0 1 (by constructor <;> decide) (by constructor <;> decide) bB (by omega) (by omega) (by omega) (by omega) (by omega) (by simp) (by simp) (by simp) (by omega) (by simp)
  have e2 : boundF 0 0 0 (fateOf [⟨false, 2, 1⟩]) = ⟨false, 2, 1⟩ := by decide
  have e3 : itemsOf ((0 : Nat) : Int) 0 bB 0 ⟨false, 2, 1⟩ = [⟨3, 0, (0, bB)⟩, ⟨4, 1, (0, bB)⟩] := by
    simp [itemsOf, List.range, List.range.loop]
  simp only [e2, e3, lateF, if_true, List.tail_cons, List.length_cons, List.length_nil, List.nil_append, Nat.zero_add] at hs2
  have HS2 := Lib.hid hs2
  clear hs2 H HS1 e1 e2 e3
  go_wp2_with fail
  refine HS2.out.mono ?_
  rintro e w4 ⟨_, rfl, rfl, H⟩
  clear HS2
  go_wp2_with fail
  refine (netnext_no 2 H (by simp) (by simp)).mono ?_
  rintro e w5 ⟨_, rfl, rfl, H5⟩
  clear H
  go_wp2_with fail
  refine (netnext_yes (j := 0) (m := ⟨3, 0, (0, bB)⟩) 3 H5 rfl (by simp [It.lt]) (by simp) (by simp) (by simp)).mono ?_
  rintro e w6 ⟨_, rfl, rfl, H⟩
  clear H5
  simp only [List.eraseIdx_zero, List.tail_cons] at H
  go_wp2_with fail
  refine (netnext_no 3 H (by simp) (by simp)).mono ?_
  rintro e w7 ⟨_, rfl, rfl, H7⟩
  clear H
  go_wp2_with fail
  refine (netnext_yes (j := 0) (m := ⟨4, 1, (0, bB)⟩) 4 H7 rfl (by simp [It.lt]) (by simp) (by simp) (by simp)).mono ?_
  rintro e w8 ⟨_, rfl, rfl, H⟩
  clear H7
  simp only [List.eraseIdx_zero, List.tail_cons] at H
  have hb : bB.toList = [98] := by rw [str_data]; rfl
  simp only []
  go_wp2_with fail
  refine (netlen_any H).mono ?_
  rintro e w9 ⟨rfl, rfl⟩
  go_wp2
  go_ret
  exact ⟨_, rfl, rfl, H.bare⟩
end Go.Proofs.Ytnpflnplpipipaa
