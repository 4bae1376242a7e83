/-
  net: the walk of NetOnly.
-/
import Derived.Test.YtnpflnplpipipaaNetO
namespace Go.Proofs.Ytnpflnplpipipaa
open Go.RowKit Go.Maps

set_option maxRecDepth 100000 in
set_option maxHeartbeats 6400000 in
theorem only_any (L : List Fa) {v : Value} (w : World) (hr : Rd w 3 v L.length (rows fcell L)) :
    Calls Try.prog 4 #[v] w (Ret fun v w' => v = .bool true ∧ Own w w' []) := by
  obtain ⟨n0, hlen⟩ : ∃ n, Hid (L.length = n) := ⟨_, rfl⟩
  rw [hlen.out] at hr
  obtain ⟨a0, cap0, rfl, hn1, hn2⟩ := hr.shape
  have HR := Lib.hid hr
  clear hr
  go_enter Try.func4, Try.ntmps4
  go_upto_if 18 with (fail)
  obtain ⟨n, hn, hn60⟩ : ∃ n, Hid (n = min n0 60) ∧ n ≤ 60 := ⟨_, rfl, by omega⟩
  go_cut [0] (fun s1 wx => wx = w ∧ ∃ cp, s1 = .slice a0 n cp ∧ Hid (Rd w 3 (.slice a0 n cp) n (rows fcell (L.take n))))
  case first =>
    by_cases hl : 60 < n0
    · have e : n = 60 := by have := hn.out; omega
      subst e
      go_wp2
      go_meet
      refine ⟨rfl, cap0, rfl, Lib.hid ?_⟩
      have h5 := HR.out.take (k := 60) (by omega)
      have e2 : (rows fcell L).take (60 * 3) = rows fcell (L.take 60) := rows_take fcell fcell_length L 60
      rwa [e2] at h5
    · have e : n = n0 := by have := hn.out; omega
      subst e
      go_wp2
      go_meet
      refine ⟨rfl, cap0, rfl, Lib.hid ?_⟩
      have h5 := HR.out
      rwa [List.take_of_length_le (by rw [hlen.out]; omega)]
  case rest =>
    clear HR
    obtain ⟨rfl, cp, rfl, hR⟩ := hcut
    obtain ⟨L2, hL2⟩ : ∃ L2, Hid (L.take n = L2) := ⟨_, rfl⟩
    rw [hL2.out] at hR
    have hl2 : Hid (n = L2.length) := Lib.hid (by rw [← hL2.out, List.length_take, hlen.out]; have := hn.out; omega)
    clear hL2 hn hlen
    go_wp2_with fail
    refine (netnew_any (Own.start wc) 0 0).mono ?_
    rintro e w1 ⟨_, rfl, g, rfl, H⟩
    have e0 : clipI 0 0 64 = 0 := by decide
    rw [e0, if_neg (by omega)] at H
    clear e0
    go_wp2_with fail
    refine (netfates_any H L2 (by rw [← hl2.out]; exact hR.out.old H) (by rw [← hl2.out]; simp; omega)).mono ?_
    rintro e w2 ⟨_, rfl, H2⟩
    clear H hR
    simp only [List.nil_append] at H2
    have hF : L2.length ≤ 60 := by rw [← hl2.out]; exact hn60
    go_upto_region 6 with (fail)
    have H := (H2.nil 30 3)
    clear H2
    go_wp2_with fail
    go_loopw [4, 5] (fun s4 s5 wx => ∃ (j : Nat) (F : List Fa) (T : List Fa) (late : Int × Int → Int) (c k : Nat) (M : List (It (Int × ByteArray))), j ≤ n ∧ s5 = .int .i64 j ∧ Hid (T.length = j) ∧ Hid (∀ x, 0 ≤ late x ∧ late x ≤ (j : Int)) ∧ c ≤ j ∧ k ≤ 4 * j ∧ M.length ≤ 4 * j ∧ F.length ≤ 60 ∧ Hid (M.length = wantN T) ∧ Hid (∀ m ∈ M, GoodIt T m) ∧ Hid (∀ f ∈ T, FOk f) ∧ Hid (OrdX M k) ∧ Own wc wx [slc 30 3 s4 j (rows fcell T), NetP g 0 0 F late c M k]) (fun _ s5 _ => n - (intOf s5).toNat)
    case atStart => exact ⟨0, L2, [], fun _ => 0, 0, 0, [], by omega, rfl, Lib.hid rfl, Lib.hid (fun x => by simp), by omega, by omega, by simp, hF, Lib.hid rfl, Lib.hid (by simp), Lib.hid (by simp), Lib.hid ⟨List.Pairwise.nil, by simp⟩, H⟩
    case round =>
      clear H
      obtain ⟨j, F, T, late, c, k, M, hj, rfl, hT, hb, hc, hk, hM, hF, hMw, hG, hO, hOrd, H⟩ := hrel
      by_cases hjn : j < n
      · obtain ⟨r2, hr2⟩ : ∃ r, Hid (((j % 2 : Nat) : Int) = r) := ⟨_, rfl⟩
        have hand : bits BinOp.and .i64 (j : Int) 1 = r2 := by rw [i64_and1, ← hr2.out]; omega
        have hr0 : 0 ≤ r2 ∧ r2 ≤ 1 := by rw [← hr2.out]; omega
        obtain ⟨hr0, hr1⟩ := hr0
        go_wp2_with fail
        refine (letter_any j (by omega) wr).mono ?_
        rintro e w3 ⟨_, rfl, rfl, h3⟩
        replace H := H.join h3
        clear h3
        have hs1 := netsend_any (H.front 1 rfl) (now := 0) (by omega) r2 0 (by constructor <;> omega) (by constructor <;> decide) (letterB j) (by omega) (by omega) (by omega) (by omega) (by omega) (hb.out _).1 (by have := (hb.out (r2, 0)).2; omega) (by omega) (by omega) (by omega)
        have hbf : boundF 0 0 (late (r2, 0)) (fateOf F) = fateOf F := by simp [boundF]
        have hlf : ∀ f, lateF 0 0 (r2, 0) f late = late := by intro f; simp [lateF]
        rw [hbf, hlf] at hs1
        have hok := fateOf_ok F
        obtain ⟨f, hf⟩ : ∃ f, Hid (fateOf F = f) := ⟨_, rfl⟩
        simp only [hf.out] at hs1 hok
        have hj2 : j = T.length := hT.out.symm
        have hg2 : Hid (∀ m ∈ M ++ itemsOf ((0 : Nat) : Int) r2 (letterB j) k f, GoodIt (T ++ [f]) m) := Lib.hid (by rw [← hr2.out, hj2]; exact all_put hok hG.out)
        have ho2 : Hid (∀ x ∈ T ++ [f], FOk x) := Lib.hid (by
          intro x hx
          rcases List.mem_append.1 hx with hx | hx
          · exact hO.out x hx
          · simp at hx; subst hx; exact hok)
        have hord2 : Hid (OrdX (M ++ itemsOf ((0 : Nat) : Int) r2 (letterB j) k f) (k + (itemsOf ((0 : Nat) : Int) r2 (letterB j) k f).length)) := Lib.hid (hOrd.out.items _ _ _ f)
        have hcnt : Hid ((M ++ itemsOf ((0 : Nat) : Int) r2 (letterB j) k f).length = wantN (T ++ [f])) := Lib.hid (by rw [List.length_append, items_count, wantN_append, hMw.out])
        have hil := itemsOf_length ((0 : Nat) : Int) r2 (letterB j) k f hok
        obtain ⟨k1, hk1⟩ : ∃ k1, Hid (k + (itemsOf ((0 : Nat) : Int) r2 (letterB j) k f).length = k1) := ⟨_, rfl⟩
        obtain ⟨M1, hM1⟩ : ∃ M1, Hid (M ++ itemsOf ((0 : Nat) : Int) r2 (letterB j) k f = M1) := ⟨_, rfl⟩
        have hk2 : k1 ≤ 4 * j + 4 := by rw [← hk1.out]; omega
        have hM2 : M1.length ≤ 4 * j + 4 := by rw [← hM1.out, List.length_append]; omega
        simp only [hk1.out, hM1.out] at hs1 hg2 hord2 hcnt
        have hT2 : Hid ((T ++ [f]).length = j + 1) := Lib.hid (by rw [List.length_append, hT.out]; rfl)
        have HS1 := Lib.hid hs1
        clear hs1 hbf hlf hil hk1 hM1 hG hO hOrd hMw hM hk hok hj2
        go_wp2_with fail
        refine HS1.out.mono ?_
        rintro e w4 ⟨_, rfl, rfl, H4⟩
        clear H HS1
        have hF1 : F.tail.length ≤ 60 := by simp; omega
        generalize F.tail = F1 at *
        obtain ⟨fd, fy, fc⟩ := f
        simp only [fval]
        go_wp2_with (refine wpList_append_one rfl _ _ rfl Try.underlying24 fateInfo rfl (by decide) rfl (H4.front 1 rfl) (news := fcell ⟨fd, fy, fc⟩) rfl rfl rfl (fcell_one _) (by omega) (by omega) ?_; clear H4; intro v' w' H)
        go_roundw
        case rel => exact ⟨j + 1, F1, T ++ [⟨fd, fy, fc⟩], late, c + 1, k1, M1, by omega, by go_num, hT2, Lib.hid (fun x => by have := hb.out x; omega), by omega, by omega, by omega, hF1, hcnt, hg2, ho2, hord2, by rw [rows_append, rows_one]; exact H⟩
        case measure => simp [intOf]; omega
      · have : j = n := by omega
        subst this
        obtain ⟨W, hW⟩ : ∃ W, Hid (wantN T = W) := ⟨_, rfl⟩
        have hW4 : W ≤ 240 := by have := wantN_le hO.out; have := hT.out; rw [← hW.out]; omega
        have hMW : M.length = W := by rw [hMw.out, hW.out]
        have hat0 : Hid (∀ m ∈ M, (1 : Int) ≤ m.at_) := Lib.hid (fun m hm => by
          obtain ⟨i, f, hf, _, _, h1, _⟩ := hG.out m hm
          have := (hO.out f (List.mem_of_getElem? hf)).1
          omega)
        clear hMw hM hb hk hc hF
        go_wp2_with fail
        go_loopw [6, 7] (fun s6 s7 wx => ∃ (t cm : Nat) (M : List (It (Int × ByteArray))), s7 = .int .i64 t ∧ t ≤ 81 ∧ s6 = .int .i64 cm ∧ cm + M.length = W ∧ Hid (∀ m ∈ M, GoodIt T m) ∧ Hid (OrdX M k) ∧ Hid (∀ m ∈ M, (t : Int) ≤ m.at_) ∧ Own wc wx [slc 30 3 u4 j (rows fcell T), NetP g 0 0 F late c M k]) (fun _ s7 _ => 81 - (intOf s7).toNat)
        case atStart => exact ⟨0, 0, M, rfl, by omega, rfl, by omega, hG, hOrd, Lib.hid (fun m hm => by have := hat0.out m hm; omega), H⟩
        case round =>
          clear H hG hOrd hat0 hMW
          obtain ⟨t, cm, M, rfl, ht, rfl, hcm, hG, hOrd, hat, H⟩ := hrel
          by_cases ht80 : t ≤ 80
          · have ht80I : (t : Int) ≤ 80 := by omega
            go_upto_block 3 with (fail)
            go_cut [6] (fun s6 wx => ∃ (cm : Nat) (M : List (It (Int × ByteArray))), s6 = .int .i64 cm ∧ cm + M.length = W ∧ Hid (∀ m ∈ M, GoodIt T m) ∧ Hid (OrdX M k) ∧ Hid (∀ m ∈ M, ((t + 1 : Nat) : Int) ≤ m.at_) ∧ Own wc wx [slc 30 3 u4 j (rows fcell T), NetP g 0 0 F late c M k])
            case first =>
              go_wp2_with fail
              go_loopw [6, 8] (fun s6 s8 wx => ∃ (q cm : Nat) (M : List (It (Int × ByteArray))), s8 = .int .i64 q ∧ M.length + q ≤ 240 ∧ s6 = .int .i64 cm ∧ cm + M.length = W ∧ Hid (∀ m ∈ M, GoodIt T m) ∧ Hid (OrdX M k) ∧ Hid (∀ m ∈ M, (t : Int) ≤ m.at_) ∧ Own wc wx [slc 30 3 u4 j (rows fcell T), NetP g 0 0 F late c M k]) (fun _ s8 _ => 300 - (intOf s8).toNat)
              case atStart => exact ⟨0, cm, M, rfl, by omega, rfl, hcm, hG, hOrd, hat, H⟩
              case round =>
                clear H hG hOrd hat hcm
                obtain ⟨q, cm, M, rfl, hMq, rfl, hcm, hG, hOrd, hat, H⟩ := hrel
                have hq : q ≤ 300 := by omega
                by_cases hdue : ∃ m ∈ M, m.at_ ≤ (t : Int)
                · obtain ⟨x, m, hj, hm⟩ := exists_least M (by rintro rfl; obtain ⟨m, hm, _⟩ := hdue; simp at hm)
                  have hnow : m.at_ ≤ (t : Int) := by
                    obtain ⟨y, hy, hyt⟩ := hdue
                    have := hm y hy
                    simp only [It.lt] at this
                    omega
                  have hmem := List.mem_of_getElem? hj
                  have hme : m.at_ = (t : Int) := by have := hat.out m hmem; omega
                  obtain ⟨i, f, hTi, hfd, hmx, hf1, hf2⟩ := hG.out m hmem
                  have hnx := netnext_yes t (H.front 1 rfl) hj hm hOrd.out.keys hnow (by omega)
                  have hxl := (List.getElem?_eq_some_iff.1 hj).1
                  have hG2 : Hid (∀ m ∈ M.eraseIdx x, GoodIt T m) := Lib.hid fun m hm => hG.out m (List.mem_of_mem_eraseIdx hm)
                  have hO2 : Hid (OrdX (M.eraseIdx x) k) := Lib.hid (hOrd.out.take x)
                  have hA2 : Hid (∀ m ∈ M.eraseIdx x, (t : Int) ≤ m.at_) := Lib.hid fun m hm => hat.out m (List.mem_of_mem_eraseIdx hm)
                  have hML : (M.eraseIdx x).length + 1 = M.length := by rw [List.length_eraseIdx, if_pos hxl]; omega
                  rw [hmx] at hnx
                  generalize M.eraseIdx x = M2 at *
                  have hil : i < j := by have := (List.getElem?_eq_some_iff.1 hTi).1; have := hT.out; omega
                  have HNX := Lib.hid hnx
                  have HTI := Lib.hid hTi
                  have hf1' : 1 + f.delay ≤ (t : Int) := by omega
                  have hf2' : (t : Int) ≤ 1 + f.delay + f.copies := by omega
                  clear hnx hTi hmx hm hj hmem hdue hxl hnow hme hf1 hf2 hG hOrd hat
                  go_wp2_with fail
                  refine HNX.out.mono ?_
                  rintro e w3 ⟨_, rfl, rfl, H3⟩
                  clear HNX H
                  have hsz : (letterB i).size = 2 := rfl
                  obtain ⟨r2, hr2⟩ : ∃ r, Hid (((i % 2 : Nat) : Int) = r) := ⟨_, rfl⟩
                  have hand : bits BinOp.and .i64 (i : Int) 1 = r2 := by rw [i64_and1, ← hr2.out]; omega
                  have hby : ∀ h : 0 < (letterB i).size, wrap64 ((((letterB i)[0]'h).toNat : Nat) : Int) = (i : Int) := fun h => by
                    have e : ((letterB i)[0]'h) = UInt8.ofNat (i % 256) := rfl
                    rw [e, byte_int _ (by omega), IntWalk.wrap64_in _ ⟨by omega, by omega⟩]
                    omega
                  obtain ⟨fd, fy, fc⟩ := f
                  simp only at hfd hf1' hf2'
                  subst hfd
                  rw [hr2.out]
                  simp only []
                  have hrd := (H3.front 1 rfl).rd
                  obtain ⟨bt, ot, ct, rfl, hct1, hct2⟩ := hrd.some (by rw [rows_length fcell fcell_length]; have := hT.out; omega)
                  have r0 := hrd.cell ((rows_get fcell fcell_length HTI.out 0 (by omega)).trans rfl)
                  have r1 := hrd.cell ((rows_get fcell fcell_length HTI.out 1 (by omega)).trans rfl)
                  have r2c := hrd.cell ((rows_get fcell fcell_length HTI.out 2 (by omega)).trans rfl)
                  simp only [Nat.add_zero, ← Nat.add_assoc] at r0 r1 r2c
                  clear hrd
                  obtain ⟨o1, o2, o3, o4⟩ := hO.out _ (List.mem_of_getElem? HTI.out)
                  simp only at o1 o2 o3 o4
                  go_upto_region 23 with (fail)
                  replace H3 := H3.alloc (.cells #[.bool false, .int .i64 fy, .int .i64 fc] 30)
                  generalize w3.heap.size = xb at *
                  generalize w3.alloc (.cells #[.bool false, .int .i64 fy, .int .i64 fc] 30) = w5 at *
                  clear r0 r1 r2c
                  have c0 := H3.cells
                  go_wp2
                  go_roundw
                  case rel => exact ⟨q + 1, cm + 1, M2, by go_num, by omega, by go_num, by omega, hG2, hO2, hA2, (((H3.front 2 rfl).front 1 rfl).drop)⟩
                  case measure => simp [intOf]; omega
                · have hno : ∀ m ∈ M, (t : Int) < m.at_ := fun m hm => by
                    rcases Classical.em (m.at_ ≤ (t : Int)) with h | h
                    · exact absurd ⟨m, hm, h⟩ hdue
                    · omega
                  have hA2 : Hid (∀ m ∈ M, ((t + 1 : Nat) : Int) ≤ m.at_) := Lib.hid fun m hm => by have := hno m hm; omega
                  have hnx := netnext_no t (H.front 1 rfl) hno (by omega)
                  have HNX := Lib.hid hnx
                  clear hnx hdue hno
                  go_wp2_with fail
                  refine HNX.out.mono ?_
                  rintro e w3 ⟨_, rfl, rfl, H3⟩
                  clear HNX H
                  go_wp2
                  go_meet
                  exact ⟨cm, M, rfl, hcm, hG, hOrd, hA2, H3.swap⟩
            case rest =>
              clear H hG hOrd hat hcm
              obtain ⟨cm, M, rfl, hcm, hG, hOrd, hat, H⟩ := hcut
              go_wp2
              go_roundw
              case rel => exact ⟨t + 1, cm, M, by go_num, by omega, rfl, hcm, hG, hOrd, hat, H⟩
              case measure => simp [intOf]; omega
          · have : t = 81 := by omega
            subst this
            have hM0 : M = [] := by
              match M, hG, hat with
              | [], _, _ => rfl
              | m :: M, hG, hat =>
                exfalso
                obtain ⟨i, f, hTi, _, _, _, h2⟩ := hG.out m (by simp)
                obtain ⟨_, q1, _, q2⟩ := hO.out f (List.mem_of_getElem? hTi)
                have := hat.out m (by simp)
                omega
            have hcW : cm = W := by rw [hM0] at hcm; simpa using hcm
            rw [hM0] at H
            clear hM0 hG hOrd hat hcm
            subst hcW
            go_wp2_with fail
            go_loopw [14, 15] (fun s14 s15 wx => ∃ (i : Nat), i ≤ j ∧ s15 = .int .i64 i ∧ s14 = .int .i64 (wantN (T.take i)) ∧ Own wc wx [slc 30 3 u4 j (rows fcell T), NetP g 0 0 F late c [] k]) (fun _ s15 _ => j - (intOf s15).toNat)
            case atStart => exact ⟨0, by omega, rfl, by simp [wantN], H⟩
            case round =>
              clear H
              obtain ⟨i, hi, rfl, rfl, H⟩ := hrel
              obtain ⟨a4, c4, rfl, _⟩ := H.rd.shape
              by_cases hij : i < j
              · obtain ⟨f, hf⟩ := get_of_lt (l := T) (k := i) (by rw [hT.out]; exact hij)
                have hrd := H.rd
                obtain ⟨bt, ot, ct, e4, hct1, hct2⟩ := hrd.some (by rw [rows_length fcell fcell_length]; have := hT.out; omega)
                cases e4
                have r0 := hrd.cell ((rows_get fcell fcell_length hf 0 (by omega)).trans rfl)
                have r2c := hrd.cell ((rows_get fcell fcell_length hf 2 (by omega)).trans rfl)
                simp only [Nat.add_zero, ← Nat.add_assoc] at r0 r2c
                have hwt := wantN_take hf
                obtain ⟨_, _, o3, o4⟩ := hO.out _ (List.mem_of_getElem? hf)
                have hle : wantN (T.take i) ≤ 240 := by
                  have h1 := wantN_le (T := T.take i) (fun x hx => hO.out x (List.mem_of_mem_take hx))
                  have h2 : (T.take i).length ≤ 60 := by rw [List.length_take]; omega
                  omega
                obtain ⟨fd, fy, fc⟩ := f
                obtain ⟨fn, rfl⟩ : ∃ n : Nat, fc = n := ⟨fc.toNat, by simp only at o3; omega⟩
                clear hrd hf
                obtain ⟨wt, hwtE⟩ : ∃ wt, Hid (wantN (T.take i) = wt) := ⟨_, rfl⟩
                rw [hwtE.out] at hle hwt ⊢
                have HWT := Lib.hid hwt
                clear hwt
                simp only at o3 o4 r0 r2c
                cases fd with
                | true =>
                  have e : wantN (T.take (i + 1)) = wt := by have := HWT.out; simpa using this
                  have E := Lib.hid e
                  clear e HWT
                  go_wp2
                  go_roundw
                  case rel => exact ⟨i + 1, by omega, by go_num, by rw [E.out], H⟩
                  case measure => simp [intOf]; omega
                | false =>
                  have e : wantN (T.take (i + 1)) = wt + fn + 1 := by have := HWT.out; simp at this; omega
                  have E := Lib.hid e
                  clear e HWT
                  go_wp2
                  go_roundw
                  case rel => exact ⟨i + 1, by omega, by go_num, by rw [E.out]; go_num, H⟩
                  case measure => simp [intOf]; omega
              · have : i = j := by omega
                subst this
                have e : wantN (T.take i) = cm := by rw [List.take_of_length_le (by rw [hT.out]; exact Nat.le_refl _), hW.out]
                rw [e]
                clear e
                go_wp2_with fail
                refine (netlen_any (H.front 1 rfl)).mono ?_
                rintro e w3 ⟨rfl, rfl⟩
                go_wp2_with fail
                refine (awake_any _).mono ?_
                rintro e w5 ⟨_, rfl, rfl, H5⟩
                go_wp2
                go_ret
                exact ⟨_, rfl, rfl, (H.join H5).bare⟩
end Go.Proofs.Ytnpflnplpipipaa
