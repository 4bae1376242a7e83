/-
  lz: the walk of LzRuns.
-/
import Derived.Test.YteblnmealnmipaaLzM
import Derived.Test.YteblnmealnmipaaLzQ
import Derived.Test.YteblnmealnmipaaBit
namespace Go.Proofs.Yteblnmealnmipaa
open Go.RowKit

theorem run_size (c : Int) (n : Nat) : (strOfNums (List.replicate n c)).size = n := by rw [strOfNums_size]; simp
theorem run_byt (c : Int) (n : Nat) : ∀ i, i < (strOfNums (List.replicate n c)).size → byt (strOfNums (List.replicate n c)) i = UInt8.ofNat c.toNat := by
  intro i hi
  rw [run_size] at hi
  unfold byt
  simp [strOfNums, Array.getD, hi]

set_option maxRecDepth 100000 in
set_option maxHeartbeats 3200000 in
theorem runs_any {w : World} (c : Int) (n0 : Int) : Calls Try.prog 7 #[.int .u8 c, .int .i64 n0] w (Ret fun v w' => v = .bool true ∧ Own w w' []) := by
  have H := (Own.start w).nil 5 1
  have hmk : bits .and .i64 n0 2047 = n0 % 2048 := i64_and_mask n0 11 (by omega)
  obtain ⟨n, hn⟩ : ∃ n : Nat, n0 % 2048 = n := ⟨(n0 % 2048).toNat, by omega⟩
  have hn1 : n < 2048 := by omega
  rw [hn] at hmk
  clear hn
  go_enter Try.func7, Try.ntmps7
  go_wp2_with fail
  go_loopw [5, 6] (fun s5 s6 wr => ∃ k : Nat, s6 = .int .i64 k ∧ k ≤ n ∧ Own w wr [slc 5 1 s5 k (bcells (List.replicate k c))]) (fun _ s6 _ => n - (intOf s6).toNat)
  case atStart => exact ⟨0, by simp, by omega, H⟩
  case round =>
    clear H
    obtain ⟨k, rfl, hk, H⟩ := hrel
    by_cases hkn : k < n
    · have hkI : (k : Int) < (n : Int) := by omega
      go_wp2_with (at_builtin; refine wpList_append_one rfl _ _ rfl Try.underlying38 u8Info rfl (by decide) rfl H (news := [.int .u8 c]) rfl rfl rfl (by simp [Value.oneCell']) (by omega) (by omega) ?_; clear H; intro v' w7 H)
      rw [bcells_snoc, ← List.replicate_succ'] at H
      go_roundw
      case rel => exact ⟨k + 1, by go_num, by omega, H⟩
      case measure => simp [intOf]; omega
    · have hkI : ¬ (k : Int) < (n : Int) := by omega
      obtain rfl : k = n := by omega
      obtain ⟨a, d, rfl, _⟩ := H.rd.shape
      have hst := run_string_sep (P := Try.prog) 38 9 Try.underlying38 Try.underlying5 Try.underlying9 (ns := List.replicate k c) H.rd
      obtain ⟨s, hs⟩ : ∃ s, Hid (strOfNums (List.replicate k c) = s) := ⟨_, rfl⟩
      have hsz : s.size = k := by rw [← hs.out, run_size]
      have hby := Lib.hid (run_byt c k)
      rw [hs.out] at hst hby
      go_wp2_with fail
      refine (lzparse_any H (s := s) (by omega)).mono ?_
      rintro e w2 ⟨v1, rfl, H2⟩
      clear H hst
      by_cases h4 : k < 4
      · have hln := parse_run4 hby.out (by omega)
        rw [hsz] at hln
        rw [hln] at H2
        obtain ⟨a1, d1, rfl, _⟩ := H2.rd.shape
        have h4I : (k : Int) < 4 := by omega
        go_wp2_with fail
        refine (awake_any H2).mono ?_
        rintro e w4 ⟨_, rfl, rfl, H4⟩
        go_wp2
        go_ret
        exact ⟨_, rfl, rfl, H4.bare⟩
      · have hln := parse_run hby.out (by omega)
        rw [hsz] at hln
        obtain ⟨r, hr⟩ : ∃ r, Hid (k - 1 = r) := ⟨_, rfl⟩
        have hrI : (k : Int) - 1 = (r : Int) := by have := hr.out; omega
        obtain ⟨y, hy⟩ : ∃ y, Hid (r / 258 = y) := ⟨_, rfl⟩
        obtain ⟨z, hz⟩ : ∃ z, Hid (r % 258 = z) := ⟨_, rfl⟩
        have hyt : (r : Int).tdiv 258 = (y : Int) := by have := hy.out; rw [Int.tdiv_eq_ediv_of_nonneg (by omega)]; omega
        have hzt : (r : Int).tmod 258 = (z : Int) := by have := hz.out; rw [Int.tmod_eq_emod_of_nonneg (by omega)]; omega
        have hyt' : (r : Int) / 258 = (y : Int) := by have := hy.out; omega
        have hzt' : (r : Int) % 258 = (z : Int) := by have := hz.out; omega
        have hyb : y ≤ 10 := by have := hy.out; have := hr.out; omega
        have hzb : z < 258 := by have := hz.out; omega
        have hw1 : IntKind.i64.wrap (y : Int) = (y : Int) := IntWalk.i64_in _ ⟨by omega, by omega⟩
        have hw2 : IntKind.i64.wrap (z : Int) = (z : Int) := IntWalk.i64_in _ ⟨by omega, by omega⟩
        have h4I : ¬ (k : Int) < 4 := by omega
        rw [hr.out] at hln
        unfold runs at hln
        rw [hy.out, hz.out] at hln
        obtain ⟨L, hL⟩ : ∃ L, Hid ((parse s).length = L) := ⟨_, rfl⟩
        rw [hL.out] at hln H2
        obtain ⟨a1, d1, rfl, _⟩ := H2.rd.shape
        by_cases hz2 : 2 < z
        · have hzI : (2 : Int) < (z : Int) := by omega
          rw [if_pos hz2] at hln
          subst hln
          go_wp2_with fail
          refine (awake_any H2).mono ?_
          rintro e w4 ⟨_, rfl, rfl, H4⟩
          go_wp2
          go_ret
          exact ⟨_, rfl, rfl, H4.bare⟩
        · have hzI : ¬ (2 : Int) < (z : Int) := by omega
          rw [if_neg hz2] at hln
          subst hln
          go_wp2_with fail
          refine (awake_any H2).mono ?_
          rintro e w4 ⟨_, rfl, rfl, H4⟩
          go_wp2
          go_ret
          exact ⟨_, rfl, rfl, H4.bare⟩
end Go.Proofs.Yteblnmealnmipaa
