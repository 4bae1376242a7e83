/-
  lz: the walk of find.
-/
import Derived.Test.YteblnmealnmipaaLzB
namespace Go.Proofs.Yteblnmealnmipaa
open Go.RowKit Go.Maps

theorem prev_step {s : ByteArray} {i p : Nat} (hk : key3 s (p - 1) = key3 s i) : prev s (key3 s (p - 1)) (p - 1) = prev s (key3 s i) (p - 1) := by rw [hk]

set_option maxHeartbeats 3200000 in
theorem find_any {w0 w : World} {ps : List Piece} {g i : Nat} {s : ByteArray} (H : Own w0 w (Fnd g s i :: ps)) (hi : i < s.size) (hs : s.size ≤ 1000000) :
    Calls Try.prog 16 #[.pointer (some ⟨g, 0, none⟩), .int .i64 i] w (Ret fun r w' => r = .tuple #[.int .i64 (found s i).1, .int .i64 (found s i).2] ∧ Own w0 w' (Fnd g s i :: ps)) := by
  have H0 := H
  obtain ⟨b, v, xs, hb, H⟩ := fnd_open H
  have hw3 : IntKind.i64.wrap ((i : Int) + 3) = (i : Int) + 3 := IntWalk.i64_in _ ⟨by omega, by omega⟩
  by_cases h3 : i + 3 ≤ s.size
  · have h3I : ¬ (s.size : Int) < (i : Int) + 3 := by omega
    have HB := Lib.hid hb
    clear hb H0
    obtain ⟨kl, hkl⟩ := k3_key w (key3 s i)
    have HK := Lib.hid hkl
    clear hkl
    obtain ⟨rb, c, rfl, hc1, hc2, _⟩ := (H.front 2 rfl).at (by rw [nums_length]; have := HB.out.len; omega)
    obtain ⟨F, hF⟩ : ∃ F, Hid (found s i = F) := ⟨_, rfl⟩
    rw [hF.out]
    obtain ⟨k0, hk0⟩ : ∃ k0, Hid (k3 (key3 s i) = k0) := ⟨_, rfl⟩
    have hlk : Hid (gOf s i (key3 s i) = (prev s (key3 s i) i : Int)) := Lib.hid rfl
    obtain ⟨pv, hpv⟩ : ∃ pv, Hid (prev s (key3 s i) i = pv) := ⟨_, rfl⟩
    rw [hpv.out] at hlk
    obtain ⟨G, hG⟩ : ∃ G, Hid (gOf s i = G) := ⟨_, rfl⟩
    have hG' := hG.out
    rw [hG'] at H hlk
    clear hG'
    obtain ⟨X, hX⟩ : ∃ X, Hid (nums xs = X) := ⟨_, rfl⟩
    rw [hX.out] at H
    have c0 := H.cells
    go_enter Try.func16, Try.ntmps16
    go_upto_region 4 with (fail)
    clear c0
    refine wp_region_calm (fun w1 => Own w0 w1 (blk g (.cells #[.string s, .map (some b), .slice (some ⟨rb, 0, none⟩) s.size c] 44) :: mpi Try.prog 49 3 k3 b i G :: slc 3 1 (.slice (some ⟨rb, 0, none⟩) s.size c) s.size X :: ps)) 9 (by kernel_rfl) (by kernel_rfl) H.drew ?_
    simp only [List.take_succ_cons, List.take_zero, List.drop_succ_cons, List.drop_zero]
    repeat
      first
      | (refine calm_value (v := ?_) (by decide) rfl (fun σ w1 hS => ?_) ?_
         rotate_left
         · have c0 := hS.cells
           first | (go_simp; rfl) | rfl
         simp only [Act.put, List.setIfInBounds_toArray, List.set_cons_zero, List.set_cons_succ])
      | (refine calm_skip (by decide) rfl ?_
         simp only [Act.put, List.setIfInBounds_toArray, List.set_cons_zero, List.set_cons_succ])
    refine calm_call (v := k0) (by decide) rfl (fun w1 => (by go_simp; first | exact ⟨rfl, rfl⟩ | rfl)) (fun σ w1 hS => ?_) ?_
    · refine (fkey_any hS h3 hs).mono ?_
      rintro e w2 ⟨_, rfl, rfl, h2⟩
      exact ⟨by rw [hk0.out], h2⟩
    simp only [Act.put, List.setIfInBounds_toArray, List.set_cons_zero, List.set_cons_succ]
    refine calm_lookup (b := b) (n := i) (g := G) (w0 := w0) (k := key3 s i) _ _ (by decide) rfl rfl rfl ?_ (fun σ w hS => ⟨_, (hS.front 1 rfl)⟩) k3_law Try.underlying41 Try.underlying3 intZero HK.out ?_
    · exact hk0.out.symm
    rw [hlk.out]
    repeat
      first
      | (refine calm_value (v := ?_) (by decide) rfl (fun σ w1 hS => ?_) ?_
         rotate_left
         · have c0 := hS.cells
           first | (go_simp; rfl) | rfl
         simp only [Act.put, List.setIfInBounds_toArray, List.set_cons_zero, List.set_cons_succ])
      | (refine calm_skip (by decide) rfl ?_
         simp only [Act.put, List.setIfInBounds_toArray, List.set_cons_zero, List.set_cons_succ])
    refine calm_nil ?_
    intro wd HD
    clear H
    have hseen : Hid (seen s i pv = (0, 0)) := Lib.hid (by rw [← hpv.out, seen_skip (Nat.le_refl i), seen_start])
    have hpvi : pv ≤ i := by rw [← hpv.out]; exact prev_le ..
    have hpvk : Hid (0 < pv → key3 s (pv - 1) = key3 s i) := Lib.hid (fun h => by rw [← hpv.out] at h ⊢; exact (prev_key i h).1)
    obtain ⟨Z, hZ⟩ : ∃ Z, Hid (s.size = Z) := ⟨_, rfl⟩
    clear hpv hlk
    go_wp2_with fail
    go_loopw [6, 7, 8] (fun s6 s7 s8 wr => ∃ l d p : Nat, s6 = .int .i64 l ∧ s7 = .int .i64 d ∧ s8 = .int .i64 p ∧ p ≤ i ∧ Hid (seen s i p = (l, d)) ∧ Hid (0 < p → key3 s (p - 1) = key3 s i) ∧ Own w0 wr (blk g (.cells #[.string s, .map (some b), .slice (some ⟨rb, 0, none⟩) s.size c] 44) :: mpi Try.prog 49 3 k3 b i G :: slc 3 1 (.slice (some ⟨rb, 0, none⟩) s.size c) s.size X :: ps)) (fun _ _ s8 _ => (intOf s8).toNat)
    case atStart => exact ⟨0, 0, pv, by simp, by simp, by simp, hpvi, hseen, hpvk, HD⟩
    case round =>
      clear HD hpvi hpvk hseen
      obtain ⟨l, d, p, rfl, rfl, rfl, hpi, hsn, hpk, H⟩ := hrel
      by_cases hp0 : p = 0
      · subst hp0
        have hend : Hid (F = (l, d)) := Lib.hid (by rw [← hsn.out, ← hF.out]; exact (seen_end hpi (.inl rfl)).symm)
        clear hpk hsn
        go_wp2
        go_ret2
        refine ⟨_, rfl, by rw [hend.out]; rfl, fnd_shut (b := b) (v := .slice (some ⟨rb, 0, none⟩) s.size c) HB.out ?_⟩
        rw [hG.out, hX.out]
        exact H
      · obtain ⟨q, rfl⟩ : ∃ q, p = q + 1 := ⟨p - 1, by omega⟩
        clear hp0
        have hpc : ((q + 1 : Nat) : Int) = (q : Int) + 1 := by omega
        rw [hpc]
        have hk := Lib.hid (hpk.out (Nat.succ_pos q))
        have e1 : q + 1 - 1 = q := rfl
        have hk' := hk.out
        rw [e1] at hk'
        clear hk hpk
        by_cases hwin : i - q ≤ 4096
        · have hwI : (i : Int) - (q : Int) ≤ 4096 := by omega
          have hhit := seen_hit (s := s) (p := q + 1) (Nat.succ_pos q) hpi (by rw [e1]; exact hwin) (by rw [e1]; exact hk') h3
          rw [e1, hsn.out] at hhit
          have hcm := comm_le s q i
          obtain ⟨n, hn⟩ : ∃ n, Hid (comm s q i = n) := ⟨_, rfl⟩
          rw [hn.out] at hhit hcm
          have hnx := seen_skip (s := s) (at_ := i) (m := q) (by omega)
          have hpl := prev_le s (key3 s i) q
          have hpq : 0 < prev s (key3 s i) q → key3 s (prev s (key3 s i) q - 1) = key3 s i := fun h => (prev_key q h).1
          have hXq : X[q]? = some (.int .i64 (prev s (key3 s i) q : Nat)) := by
            rw [← hX.out]
            refine nums_get ?_
            rw [← hk']
            exact HB.out.get q (by omega) (by omega)
          rw [hhit] at hnx
          obtain ⟨p2, hp2⟩ : ∃ p2, Hid (prev s (key3 s i) q = p2) := ⟨_, rfl⟩
          rw [hp2.out] at hnx hpl hpq hXq
          have HX := Lib.hid hXq
          have HN := Lib.hid hnx
          have HP := Lib.hid hpq
          clear hXq hnx hpq hhit hsn hk' e1
          have c0 := H.cells
          have hqi : q < i := by omega
          by_cases hln : l < n
          · have HN' : Hid (seen s i p2 = (n, i - q)) := Lib.hid (by rw [HN.out, if_pos hln])
            have hlnI : (l : Int) < (n : Int) := by omega
            go_wp2_with fail
            refine (fsame_any H (show q ≤ i by omega) (by omega) hs).mono ?_
            rintro e w1 ⟨_, rfl, rfl, H1⟩
            rw [hn.out]
            clear H c0
            have c0 := H1.cells
            have c1 := (H1.front 2 rfl).rd.cell HX.out
            rw [Nat.zero_add] at c1
            go_wp2_with fail
            go_roundw
            case rel => exact ⟨n, i - q, p2, by go_num, by simp; omega, by go_num, by omega, HN', HP, H1⟩
            case measure => simp [intOf]; omega
          · have HN' : Hid (seen s i p2 = (l, d)) := Lib.hid (by rw [HN.out, if_neg hln])
            have hlnI : ¬ (l : Int) < (n : Int) := by omega
            go_wp2_with fail
            refine (fsame_any H (show q ≤ i by omega) (by omega) hs).mono ?_
            rintro e w1 ⟨_, rfl, rfl, H1⟩
            rw [hn.out]
            clear H c0
            have c0 := H1.cells
            have c1 := (H1.front 2 rfl).rd.cell HX.out
            rw [Nat.zero_add] at c1
            go_wp2_with fail
            go_roundw
            case rel => exact ⟨l, d, p2, by go_num, by go_num, by go_num, by omega, HN', HP, H1⟩
            case measure => simp [intOf]; omega
        · have hwI : ¬ (i : Int) - (q : Int) ≤ 4096 := by omega
          have hend : Hid (F = (l, d)) := Lib.hid (by rw [← hsn.out, ← hF.out]; exact (seen_end hpi (.inr (by omega))).symm)
          clear hsn hk' e1
          go_wp2
          go_ret2
          refine ⟨_, rfl, by rw [hend.out]; rfl, fnd_shut (b := b) (v := .slice (some ⟨rb, 0, none⟩) s.size c) HB.out ?_⟩
          rw [hG.out, hX.out]
          exact H
  · have h3I : (s.size : Int) < (i : Int) + 3 := by omega
    have hf := Lib.hid (found_none (s := s) (at_ := i) (by omega))
    have c0 := H.cells
    go_enter Try.func16, Try.ntmps16
    go_wp2
    go_ret2
    exact ⟨_, rfl, by rw [hf.out]; rfl, H0⟩
end Go.Proofs.Yteblnmealnmipaa
