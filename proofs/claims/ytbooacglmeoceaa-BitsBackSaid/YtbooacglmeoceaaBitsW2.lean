/-
  Bits: the walks of the writer: Put, Code.
-/
import Derived.Test.YtbooacglmeoceaaBitsW
namespace Go.Proofs.Ytbooacglmeoceaa
open Go.RowKit

def cut (n : Int) : Nat := (min (max n 0) 62).toNat

set_option maxHeartbeats 400000 in
theorem put_any {w0 w : World} {ps : List Piece} {g : Nat} {bs : List Bool} (v n : Int) (hv : -9223372036854775808 ≤ v ∧ v ≤ 9223372036854775807) (hn : -9223372036854775808 ≤ n ∧ n ≤ 9223372036854775807) (H : Own w0 w (Wtr g bs :: ps)) (hl : bs.length ≤ 35184372088000) :
    Calls Try.prog 24 #[.pointer (some ⟨g, 0, none⟩), .int .i64 v, .int .i64 n] w (Ret fun _ w' => Own w0 w' (Wtr g (bs ++ bitsOf v (cut n)) :: ps)) := by
  obtain ⟨hv1, hv2⟩ := hv
  obtain ⟨hn1, hn2⟩ := hn
  obtain ⟨m, hm, hm62⟩ : ∃ m : Nat, Hid (cut n = m) ∧ m ≤ 62 := ⟨_, Lib.hid rfl, by unfold cut; omega⟩
  have hmn : Hid (min (max n 0) 62 = (m : Int)) := Lib.hid (by rw [← hm.out]; unfold cut; omega)
  go_enter Try.func24, Try.ntmps24
  go_upto_region 1 with (fail)
  go_cut [11, 12] (fun s11 s12 wx => wx = w ∧ s11 = .int .i64 m ∧ s12 = .int .i64 0)
  case first =>
    go_wp2
    all_goals go_meet
    all_goals exact ⟨rfl, val_int (by have := hmn.out; omega), rfl⟩
  case rest =>
    obtain ⟨rfl, rfl, rfl⟩ := hcut
    go_wp2_with fail
    go_loopw [12] (fun i wx => ∃ k : Nat, k ≤ m ∧ i = .int .i64 k ∧ Own w0 wx (Wtr g (bs ++ bitsOf v k) :: ps)) (fun i _ => m - (intOf i).toNat)
    case atStart => exact ⟨0, Nat.zero_le _, rfl, by simpa [bitsOf] using H⟩
    case round =>
      clear H
      obtain ⟨k, hk, rfl, H⟩ := hrel
      by_cases hlt : k < m
      · obtain ⟨b, hbb⟩ : ∃ b, Hid (bitOf v k = b) := ⟨_, rfl⟩
        have hbit : bits .and .i64 (v / 2 ^ k) 1 = bi b := by rw [i64_and1, ← hbb.out, bi_bitOf]
        go_wp2_with fail
        refine (bit_any b H (by simp [bitsOf_length]; omega)).mono ?_
        rintro e w2 ⟨_, rfl, h2⟩
        replace H : Own w0 w2 (Wtr g (bs ++ bitsOf v (k + 1)) :: ps) := by rw [bitsOf_succ, ← List.append_assoc, hbb.out]; exact h2
        clear h2
        go_wp2
        go_roundw
        case rel => exact ⟨k + 1, by omega, by go_num, H⟩
        case measure => simp [intOf]; omega
      · obtain rfl : k = m := by omega
        go_wp2
        go_end0
        rw [hm.out]
        exact ⟨_, rfl, H⟩

/-- The k-th of what Code puts. -/
theorem codeBits_take (v : Int) (m k : Nat) (hk : k < m) : (bitsOf v m).reverse.take (k + 1) = (bitsOf v m).reverse.take k ++ [bitOf v (m - 1 - k)] := by
  rw [List.take_succ_eq_append_getElem (by simpa [bitsOf_length] using hk)]
  simp [bitsOf]

set_option maxHeartbeats 400000 in
theorem code_any {w0 w : World} {ps : List Piece} {g : Nat} {bs : List Bool} (v n : Int) (hv : -9223372036854775808 ≤ v ∧ v ≤ 9223372036854775807) (hn : -9223372036854775808 ≤ n ∧ n ≤ 9223372036854775807) (H : Own w0 w (Wtr g bs :: ps)) (hl : bs.length ≤ 35184372088000) :
    Calls Try.prog 25 #[.pointer (some ⟨g, 0, none⟩), .int .i64 v, .int .i64 n] w (Ret fun _ w' => Own w0 w' (Wtr g (bs ++ (bitsOf v (cut n)).reverse) :: ps)) := by
  obtain ⟨hv1, hv2⟩ := hv
  obtain ⟨hn1, hn2⟩ := hn
  obtain ⟨m, hm, hm62⟩ : ∃ m : Nat, Hid (cut n = m) ∧ m ≤ 62 := ⟨_, Lib.hid rfl, by unfold cut; omega⟩
  have hmn : Hid (min (max n 0) 62 = (m : Int)) := Lib.hid (by rw [← hm.out]; unfold cut; omega)
  go_enter Try.func25, Try.ntmps25
  go_upto_region 1 with (fail)
  go_cut [6] (fun s6 wx => wx = w ∧ s6 = .int .i64 ((m : Int) - 1))
  case first =>
    go_wp2
    all_goals go_meet
    all_goals exact ⟨rfl, val_int (by have := hmn.out; omega)⟩
  case rest =>
    obtain ⟨rfl, rfl⟩ := hcut
    go_wp2_with fail
    go_loopw [6] (fun i wx => ∃ k : Nat, ∃ d : Int, k ≤ m ∧ i = .int .i64 d ∧ Hid (d = (m : Int) - 1 - k) ∧ Own w0 wx (Wtr g (bs ++ (bitsOf v m).reverse.take k) :: ps)) (fun i _ => (intOf i + 1).toNat)
    case atStart => exact ⟨0, _, Nat.zero_le _, rfl, Lib.hid (by omega), by simpa using H⟩
    case round =>
      clear H
      obtain ⟨k, d, hk, rfl, hd, H⟩ := hrel
      by_cases hlt : k < m
      · obtain ⟨j, hj⟩ : ∃ j, Hid (m - 1 - k = j) := ⟨_, rfl⟩
        obtain rfl : d = (j : Int) := by have := hd.out; have := hj.out; omega
        have hj62 : j < 62 := by have := hj.out; omega
        obtain ⟨b, hbb⟩ : ∃ b, Hid (bitOf v j = b) := ⟨_, rfl⟩
        have hbit : bits .and .i64 (v / 2 ^ j) 1 = bi b := by rw [i64_and1, ← hbb.out, bi_bitOf]
        go_wp2_with fail
        refine (bit_any b H (by simp [bitsOf_length]; omega)).mono ?_
        rintro e w2 ⟨_, rfl, h2⟩
        replace H : Own w0 w2 (Wtr g (bs ++ (bitsOf v m).reverse.take (k + 1)) :: ps) := by rw [codeBits_take v m k hlt, ← List.append_assoc, hj.out, hbb.out]; exact h2
        clear h2
        go_wp2
        go_roundw
        case rel => exact ⟨k + 1, _, by omega, rfl, Lib.hid (by have := hd.out; omega), H⟩
        case measure => simp [intOf]
      · have hd0 : d < 0 := by have := hd.out; omega
        obtain rfl : k = m := by omega
        rw [List.take_of_length_le (by simp [bitsOf_length])] at H
        go_wp2
        go_end0
        rw [hm.out]
        exact ⟨_, rfl, H⟩

/-! ### a writer that is none -/
theorem put_none (v n : Int) (w : World) : Calls Try.prog 24 #[.pointer none, .int .i64 v, .int .i64 n] w (Ret fun _ w' => w' = w) := by
  go_enter Try.func24, Try.ntmps24
  go_wp2
  refine bodyPost_ret (results_none rfl _ _ _) rfl ?_
  exact ⟨_, rfl, rfl⟩
theorem code_none (v n : Int) (w : World) : Calls Try.prog 25 #[.pointer none, .int .i64 v, .int .i64 n] w (Ret fun _ w' => w' = w) := by
  go_enter Try.func25, Try.ntmps25
  go_wp2
  refine bodyPost_ret (results_none rfl _ _ _) rfl ?_
  exact ⟨_, rfl, rfl⟩
end Go.Proofs.Ytbooacglmeoceaa
