/-
  net: the walk of NetFair.
-/
import Derived.Test.YtnpflnplpipipaaNetF
namespace Go.Proofs.Ytnpflnplpipipaa
open Go.RowKit Go.Maps

theorem lateF_bounds {K D : Int} {c : Int × Int} {f : Fa} {late : Int × Int → Int} {m : Int} (h : ∀ x, 0 ≤ late x ∧ late x ≤ m) : ∀ x, 0 ≤ lateF K D c f late x ∧ lateF K D c f late x ≤ m + 1 := by
  intro x
  have h1 := h x
  have h2 := h c
  unfold lateF
  split
  · omega
  · simp only
    split
    · split <;> omega
    · omega
/-- What is late behind one more of its own class, and that it stays below the bound. -/
theorem lateF_own {K D : Int} {c : Int × Int} {f : Fa} {late : Int × Int → Int} (hK : 1 ≤ K) (hD : 0 ≤ D) (h : late c < K) : lateF K D c (boundF K D (late c) f) late c = (if isLate D (boundF K D (late c) f) then late c + 1 else 0) ∧ (isLate D (boundF K D (late c) f) → late c + 1 < K) := by
  constructor
  · unfold lateF
    rw [if_neg (by omega)]
    simp
  · intro hl
    unfold boundF at hl
    rw [if_neg (by omega)] at hl
    split at hl
    · next hge =>
      have := clipI_bounds (n := f.delay) (lo := 0) (hi := D) hD
      simp only [isLate, Bool.false_eq_true, false_or] at hl
      omega
    · omega
theorem lateF_other {K D : Int} {c d : Int × Int} {f : Fa} {late : Int × Int → Int} (h : c ≠ d) : lateF K D d f late c = late c := by
  unfold lateF
  split
  · rfl
  · simp [h]

set_option maxRecDepth 100000 in
set_option maxHeartbeats 6400000 in
theorem fair_any (K D : Int) (L : List Fa) (cl : Int) (hcl : In64 cl) {v : Value} (w : World) (hr : Rd w 3 v L.length (rows fcell L)) :
    Calls Try.prog 3 #[.agg #[.int .i64 K, .int .i64 D], v, .int .i64 cl] w (Ret fun v w' => v = .bool true ∧ Own w w' []) := by
  obtain ⟨n0, hlen⟩ : ∃ n, Hid (L.length = n) := ⟨_, rfl⟩
  rw [hlen.out] at hr
  obtain ⟨a0, cap0, rfl, hn1, hn2⟩ := hr.shape
  have HR := Lib.hid hr
  clear hr
  go_enter Try.func3, Try.ntmps3
  go_upto_region 1 with (fail)
  have H := (Own.start w).alloc (.cells #[.int .i64 K, .int .i64 D] 23)
  generalize w.heap.size = fp at *
  generalize w.alloc (.cells #[.int .i64 K, .int .i64 D] 23) = wa at *
  have c0 := H.cells
  by_cases h1 : K < 1
  · go_wp2_with fail
    refine (awake_any _).mono ?_
    rintro e w5 ⟨_, rfl, rfl, H5⟩
    go_wp2
    go_ret
    exact ⟨_, rfl, rfl, (H.join H5).bare⟩
  by_cases h2 : 20 < K
  · go_wp2_with fail
    refine (awake_any _).mono ?_
    rintro e w5 ⟨_, rfl, rfl, H5⟩
    go_wp2
    go_ret
    exact ⟨_, rfl, rfl, (H.join H5).bare⟩
  by_cases h3 : D < 0
  · go_wp2_with fail
    refine (awake_any _).mono ?_
    rintro e w5 ⟨_, rfl, rfl, H5⟩
    go_wp2
    go_ret
    exact ⟨_, rfl, rfl, (H.join H5).bare⟩
  by_cases h4 : 64 < D
  · go_wp2_with fail
    refine (awake_any _).mono ?_
    rintro e w5 ⟨_, rfl, rfl, H5⟩
    go_wp2
    go_ret
    exact ⟨_, rfl, rfl, (H.join H5).bare⟩
  go_wp2_with fail
  refine (netnew_any H K D).mono ?_
  rintro e w1 ⟨_, rfl, g, rfl, H1⟩
  have e1 : clipI D 0 64 = D := by unfold clipI; rw [if_neg (by omega), if_neg (by omega)]
  rw [e1, if_neg (by omega)] at H1
  clear H c0 e1
  go_upto_if 34 with (fail)
  obtain ⟨n, hn, hn100⟩ : ∃ n, Hid (n = min n0 100) ∧ n ≤ 100 := ⟨_, rfl, by omega⟩
  go_cut [1] (fun s1 wx => ∃ cp, s1 = .slice a0 n cp ∧ Hid (Rd wx 3 (.slice a0 n cp) n (rows fcell (L.take n))) ∧ Own w wx [NetP g K D [] (fun _ => 0) 0 [] 0, blk fp (.cells #[.int .i64 K, .int .i64 D] 23)])
  case first =>
    by_cases hl : 100 < n0
    · have e : n = 100 := by have := hn.out; omega
      subst e
      go_wp2
      go_meet
      refine ⟨cap0, rfl, Lib.hid ?_, H1⟩
      have h5 := (HR.out.old H1).take (k := 100) (by omega)
      have e2 : (rows fcell L).take (100 * 3) = rows fcell (L.take 100) := rows_take fcell fcell_length L 100
      rwa [e2] at h5
    · have e : n = n0 := by have := hn.out; omega
      subst e
      go_wp2
      go_meet
      refine ⟨cap0, rfl, Lib.hid ?_, H1⟩
      have h5 := HR.out.old H1
      rwa [List.take_of_length_le (by rw [hlen.out]; omega)]
  case rest =>
    clear H1 HR
    obtain ⟨cp, rfl, hR, H⟩ := hcut
    obtain ⟨L2, hL2⟩ : ∃ L2, Hid (L.take n = L2) := ⟨_, rfl⟩
    rw [hL2.out] at hR
    have hl2 : Hid (n = L2.length) := Lib.hid (by rw [← hL2.out, List.length_take, hlen.out]; have := hn.out; omega)
    clear hL2 hn hlen
    go_wp2_with fail
    refine (netfates_any H L2 (by rw [← hl2.out]; exact hR.out) (by rw [← hl2.out]; simp; omega)).mono ?_
    rintro e w2 ⟨_, rfl, H2⟩
    clear H hR
    simp only [List.nil_append] at H2
    have hF : L2.length ≤ 100 := by rw [← hl2.out]; exact hn100
    go_wp2_with fail
    go_loopw [8, 9] (fun s8 s9 wx => ∃ (j : Nat) (lt : Int) (F : List Fa) (late : Int × Int → Int) (c k : Nat) (M : List (It (Int × ByteArray))), j ≤ n ∧ s9 = .int .i64 j ∧ s8 = .int .i64 lt ∧ Hid (late (0, cl) = lt) ∧ 0 ≤ lt ∧ lt < K ∧ Hid (∀ x, 0 ≤ late x ∧ late x ≤ 2 * (j : Int)) ∧ c ≤ 2 * j ∧ k ≤ 8 * j ∧ M.length ≤ 8 * j ∧ F.length ≤ 100 ∧ Own w wx [NetP g K D F late c M k, blk fp (.cells #[.int .i64 K, .int .i64 D] 23)]) (fun _ s9 _ => n - (intOf s9).toNat)
    case atStart => exact ⟨0, 0, L2, fun _ => 0, 0, 0, [], by omega, rfl, rfl, Lib.hid rfl, by omega, by omega, Lib.hid (fun x => by simp), by omega, by omega, by simp, hF, H2⟩
    case round =>
      clear H2
      obtain ⟨j, lt, F, late, c, k, M, hj, rfl, rfl, hlt, hlt0, hltK, hb, hc, hk, hM, hF, H⟩ := hrel
      by_cases hjn : j < n
      · have hs1 := netsend_any H (now := 0) (by omega) 0 cl (by constructor <;> decide) hcl bA (by omega) (by omega) (by omega) (by omega) (by omega) (hb.out (0, cl)).1 (by have := (hb.out (0, cl)).2; omega) (by omega) (by omega) (by omega)
        have hown := lateF_own (K := K) (D := D) (c := (0, cl)) (f := fateOf F) (late := late) (by omega) (by omega) (by rw [hlt.out]; exact hltK)
        rw [hlt.out] at hs1 hown
        have hok := boundF_ok (K := K) (n := lt) (fateOf_ok F) (show 0 ≤ D by omega) (show D ≤ 64 by omega)
        obtain ⟨f, hf⟩ : ∃ f, Hid (boundF K D lt (fateOf F) = f) := ⟨_, rfl⟩
        simp only [hf.out] at hs1 hown hok
        have hil := itemsOf_length 0 0 bA k f hok
        have hb2 := lateF_bounds (K := K) (D := D) (c := (0, cl)) (f := f) hb.out
        obtain ⟨la1, hla1⟩ : ∃ la, Hid (lateF K D (0, cl) f late = la) := ⟨_, rfl⟩
        obtain ⟨it1, hit1⟩ : ∃ it, Hid (itemsOf ((0 : Nat) : Int) 0 bA k f = it) := ⟨_, rfl⟩
        rw [hla1.out] at hown hb2
        simp only [hla1.out, hit1.out] at hs1
        have hil1 : it1.length ≤ 4 := by rw [← hit1.out]; exact hil
        have HS1 := Lib.hid hs1
        have HOWN := Lib.hid hown
        have HB2 := Lib.hid hb2
        clear hs1 hown hb2 hil hb hlt hla1 hit1 hok
        obtain ⟨fd, fy, fc⟩ := f
        have c0 := (H.front 1 rfl).cells
        go_wp2_with fail
        refine HS1.out.mono ?_
        rintro e w3 ⟨_, rfl, rfl, H3⟩
        clear H HS1 c0
        have hF1 : F.tail.length ≤ 100 := by simp; omega
        have hM1 : (M ++ it1).length ≤ 8 * j + 4 := by simp; omega
        generalize F.tail = F1 at *
        generalize M ++ it1 = M1 at *
        obtain ⟨k1, hk1⟩ : ∃ k1, k + it1.length = k1 := ⟨_, rfl⟩
        have hk2 : k1 ≤ 8 * j + 4 := by omega
        rw [hk1] at H3
        clear hk1 hil1 hf hM hk hF
        simp only [fval]
        go_upto_region 12 with (fail)
        replace H3 := (H3.alloc (.cells #[.bool fd, .int .i64 fy, .int .i64 fc] 30)).swap
        generalize w3.heap.size = fb at *
        generalize w3.alloc (.cells #[.bool fd, .int .i64 fy, .int .i64 fc] 30) = w4 at *
        go_upto_if 51 with (fail)
        go_cut [] (fun wx => ∃ (F : List Fa) (late : Int × Int → Int) (c' k : Nat) (M : List (It (Int × ByteArray))), Hid (late (0, cl) = la1 (0, cl)) ∧ Hid (∀ x, 0 ≤ late x ∧ late x ≤ 2 * ((j + 1 : Nat) : Int)) ∧ c' ≤ 2 * (j + 1) ∧ k ≤ 8 * (j + 1) ∧ M.length ≤ 8 * (j + 1) ∧ F.length ≤ 100 ∧ Own w wx [NetP g K D F late c' M k, blk fb (.cells #[.bool fd, .int .i64 fy, .int .i64 fc] 30), blk fp (.cells #[.int .i64 K, .int .i64 D] 23)])
        case first =>
          by_cases h31 : (j : Int) % 3 = 1
          · have h31' : ((j : Int) % 3 == 1) = true := by simp [h31]
            have hs2 := netsend_any H3 (now := 0) (by omega) 1 cl (by constructor <;> decide) hcl bB (by omega) (by omega) (by omega) (by omega) (by omega) (HB2.out (1, cl)).1 (by have := (HB2.out (1, cl)).2; omega) (by omega) (by omega) (by omega)
            have hok := boundF_ok (K := K) (n := la1 (1, cl)) (fateOf_ok F1) (show 0 ≤ D by omega) (show D ≤ 64 by omega)
            have hoth := lateF_other (K := K) (D := D) (c := (0, cl)) (d := (1, cl)) (f := boundF K D (la1 (1, cl)) (fateOf F1)) (late := la1) (by simp)
            have hil := itemsOf_length ((0 : Nat) : Int) 1 bB k1 _ hok
            have hb3 := lateF_bounds (K := K) (D := D) (c := (1, cl)) (f := boundF K D (la1 (1, cl)) (fateOf F1)) HB2.out
            have HS2 := Lib.hid hs2
            have HO := Lib.hid hoth
            have HIL := Lib.hid hil
            have HB3 := Lib.hid hb3
            clear hs2 hoth hil hb3 hok h31
            go_wp2_with fail
            refine HS2.out.mono ?_
            rintro e w5 ⟨_, rfl, _, H5⟩
            go_wp2
            go_meet
            refine ⟨_, _, _, _, _, HO, Lib.hid (fun x => ?_), ?_, ?_, ?_, ?_, H5⟩
            · have := HB3.out x; omega
            · omega
            · have := HIL.out; omega
            · rw [List.length_append]; have := HIL.out; omega
            · simp; omega
          · have h31' : ((j : Int) % 3 == 1) = false := by simp [h31]
            clear h31
            go_wp2_with fail
            go_meet
            exact ⟨F1, la1, c + 1, k1, M1, Lib.hid rfl, Lib.hid (fun x => by have := HB2.out x; omega), by omega, by omega, by omega, by omega, H3⟩
        case rest =>
          clear H3 HB2 hM1 hk2 hF1
          obtain ⟨F2, la2, c2, k2', M2, hsame, HB, hc2, hk2, hM2, hF2, H⟩ := hcut
          have hown := HOWN.out
          rw [← hsame.out] at hown
          clear hsame HOWN
          have c0 := (H.front 1 rfl).cells
          have c1 := (H.front 2 rfl).cells
          have hcase : fd = true ∧ isLate D ⟨fd, fy, fc⟩ ∨ fd = false ∧ D < fy ∧ isLate D ⟨fd, fy, fc⟩ ∨ fd = false ∧ fy ≤ D ∧ ¬ isLate D ⟨fd, fy, fc⟩ := by
            cases fd <;> simp [isLate]
            omega
          have HOWN := Lib.hid hown
          have HC := Lib.hid hcase
          clear hown hcase
          rcases HC.out with ⟨rfl, hl⟩ | ⟨rfl, hy, hl⟩ | ⟨rfl, hy, hl⟩
          · have hl1 := HOWN.out.2 hl
            have hl2 : Hid (la2 (0, cl) = lt + 1) := Lib.hid (by rw [HOWN.out.1, if_pos hl])
            clear HOWN hl HC
            go_wp2
            go_roundw
            case rel => exact ⟨j + 1, lt + 1, F2, la2, c2, k2', M2, by omega, by go_num, by go_num, hl2, by omega, by omega, HB, hc2, hk2, hM2, hF2, ((H.front 1 rfl).drop)⟩
            case measure => simp [intOf]; omega
          · have hl1 := HOWN.out.2 hl
            have hl2 : Hid (la2 (0, cl) = lt + 1) := Lib.hid (by rw [HOWN.out.1, if_pos hl])
            clear HOWN hl HC
            go_wp2
            go_roundw
            case rel => exact ⟨j + 1, lt + 1, F2, la2, c2, k2', M2, by omega, by go_num, by go_num, hl2, by omega, by omega, HB, hc2, hk2, hM2, hF2, ((H.front 1 rfl).drop)⟩
            case measure => simp [intOf]; omega
          · have hl2 : Hid (la2 (0, cl) = 0) := Lib.hid (by rw [HOWN.out.1, if_neg hl])
            clear HOWN hl HC
            go_wp2
            go_roundw
            case rel => exact ⟨j + 1, 0, F2, la2, c2, k2', M2, by omega, by go_num, by go_num, hl2, by omega, by omega, HB, hc2, hk2, hM2, hF2, ((H.front 1 rfl).drop)⟩
            case measure => simp [intOf]; omega
      · have : j = n := by omega
        subst this
        go_wp2_with fail
        refine (awake_any _).mono ?_
        rintro e w5 ⟨_, rfl, rfl, H5⟩
        go_wp2
        go_ret
        exact ⟨_, rfl, rfl, (H.join H5).bare⟩
end Go.Proofs.Ytnpflnplpipipaa
