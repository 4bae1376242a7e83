/-
  Texts of this claim, one behind the other: huff; huff; huff; huff; Bits; Bits; Bits; huff; Bits; huff; bits.New; huff; huff; Bits; Bits; Bits; huff.
-/
import Derived.Test.YtfeamlbkogigkaaPart4
import Derived.Test.YtfeamlbkogigkaaRows
import Derived.WalkSpells
import Derived.WalkLawsBesides
import Derived.BigQuiet
import Derived.Deep.DeepCutAuto
import Derived.Deep.CutBlock
import Derived.Deep.LoopGhost
import Derived.Deep.QuietTactic
set_option linter.unusedVariables false
/- huff: the walk of the law on lengths. -/
namespace Go.Proofs.Ytfeamlbkogigkaa
open Go.RowKit


set_option maxRecDepth 100000 in
set_option maxHeartbeats 6400000 in
theorem lawlengths_any {w : World} {v : Value} {n : Nat} {F0 : List Int} {L : Int} (hr0 : Rd w 1 v n (nums F0)) :
    Calls Try.prog 3 #[v, .int .i64 L] w (Ret fun r w' => r = .bool true ∧ Own w w' []) := by
  have hs := some_any (w := w) hr0
  obtain ⟨F, hF⟩ : ∃ F, Hid (F0.take 330 = F) := ⟨_, rfl⟩
  obtain ⟨m, hm⟩ : ∃ m, Hid (F.length = m) := ⟨_, rfl⟩
  have hm330 : m ≤ 330 := by rw [← hm.out, ← hF.out, List.length_take]; omega
  rw [hF.out, hm.out] at hs
  have HS := Lib.hid hs
  obtain ⟨va, vc, rfl, -⟩ := hr0.shape
  clear hr0 hs
  go_enter Try.func3, Try.ntmps3
  go_wp2_with fail
  refine HS.out.mono ?_
  rintro e w1 ⟨r, rfl, hr, H⟩
  obtain ⟨a, c, rfl, hc1, hc2⟩ := hr.shape
  have HR := Lib.hid hr
  clear hr HS
  obtain ⟨er, her⟩ : ∃ er, Hid (errF F L = er) := ⟨_, rfl⟩
  obtain ⟨R, hRes⟩ : ∃ R, Hid (resF F L = R) := ⟨_, rfl⟩
  go_wp2_with fail
  refine (lengths_any (F := F) (L := L) (HR.out.old H) (by omega)).mono ?_
  rintro e w2 ⟨_, rfl, o, rfl, H1⟩
  rw [her.out]
  rw [hRes.out] at H1
  have H := H.join H1
  clear H1
  obtain ⟨p1, q1, rfl, hq1, hq2⟩ := H.rd.shape
  go_wp2_with fail
  refine (rmaycount_any (F := F) (L := L) (HR.out.old H) (by omega)).mono ?_
  rintro e w3 ⟨_, rfl, rfl, H1⟩
  rw [her.out]
  have H := H.join H1
  clear H1
  by_cases h0 : er = 0
  · subst h0
    have hok := len_ok her.out
    rw [hRes.out] at hok
    have hRl : R.length = m := by rw [hok.len]; exact hm.out
    rw [hRl] at H hq1 ⊢
    have HOK := Lib.hid hok
    clear hok hRl
    go_wp2_with fail
    go_loopw [7] (fun s7 wx => ∃ i : Nat, s7 = .int .i64 i ∧ i ≤ m ∧ Own w wx [slc 3 1 (.slice p1 m q1) m (nums R)]) (fun s7 _ => m - (intOf s7).toNat)
    case atStart => exact ⟨0, by go_num, by omega, H⟩
    case round =>
      clear H
      obtain ⟨i, rfl, hi, H⟩ := hrel
      by_cases hlt : i < m
      · have hI : (i : Int) < (m : Int) := by omega
        have hg := HOK.out.get i (by have := hm.out; omega)
        obtain ⟨b1, o1, rfl, -⟩ := rd_at HR.out H hlt
        obtain ⟨b2, o2, rfl, -⟩ := rd_at H.rd (Own.start wr) hlt
        have g : ∀ (w' : World), Own w w' [slc 3 1 (.slice (some ⟨b2, o2, none⟩) m q1) m (nums R)] → w'.cell? ⟨b1, o1 + i, none⟩ = some (.int .i64 (F.getD i 0)) ∧ w'.cell? ⟨b2, o2 + i, none⟩ = some (.int .i64 (R.getD i 0)) := fun w' h => by
          obtain ⟨_, _, he, h1⟩ := rd_at HR.out h hlt
          obtain ⟨_, _, he2, h2⟩ := rd_at h.rd (Own.start w') hlt
          cases he; cases he2
          exact ⟨h1, h2⟩
        generalize F.getD i 0 = x at *
        generalize R.getD i 0 = y at *
        have G := Lib.hid g
        obtain ⟨hg1, hg2, hg3⟩ := hg
        have hn1 : ¬ y < 0 := by omega
        have hn2 : ¬ L < y := by omega
        by_cases hx : x = 0
        case' pos =>
          have hy : y = 0 := hg3.2 hx
          subst hx hy
        case' neg =>
          have hx1 : (x == 0) = false := by simp; omega
          have hy1 : (y == 0) = false := by simp; omega
        all_goals
          clear g hg3 hg1 hg2
          go_upto_region 12 with (fail)
          refine wp_region_calm (fun w1 => Own w w1 [slc 3 1 (.slice (some ⟨b2, o2, none⟩) m q1) m (nums R)]) 25 (by kernel_rfl) (by kernel_rfl) H.drew ?_
          simp only [List.take_succ_cons, List.take_zero, List.drop_succ_cons, List.drop_zero]
          repeat
            first
            | (refine calm_value (v := ?_) (by decide) rfl (fun σ w1 hS => ?_) ?_
               rotate_left
               · obtain ⟨c0, c1⟩ := G.out _ hS
                 first | (go_simp; rfl) | rfl
               simp only [Act.put, List.setIfInBounds_toArray, List.set_cons_zero, List.set_cons_succ])
            | (refine calm_skip (by decide) rfl ?_
               simp only [Act.put, List.setIfInBounds_toArray, List.set_cons_zero, List.set_cons_succ])
          refine calm_nil ?_
          intro wd HD
          clear H
          go_wp2_with fail
          go_roundw
          case rel => exact ⟨i + 1, by go_num, by omega, HD⟩
          case measure => simp [intOf]; omega
      · obtain rfl : i = m := by omega
        have hI : ¬ (i : Int) < (i : Int) := by omega
        go_wp2_with fail
        refine (rused_any (F := F) (HR.out.old H) (by omega)).mono ?_
        rintro e w4 ⟨_, rfl, rfl, H1⟩
        have H := H.join H1
        clear H1
        have hw := HOK.out.weight
        obtain ⟨N, hN⟩ : ∃ N, Hid ((usedF F).length = N) := ⟨_, rfl⟩
        rw [hN.out] at hw ⊢
        have hNm : N ≤ i := by rw [← hN.out, ← hm.out]; exact usedN_length F _
        go_wp2_with fail
        refine (rweight_any (F := R) H.rd (by omega) HOK.out.all).mono ?_
        rintro e w5 ⟨_, rfl, rfl, H1⟩
        have H := H.join H1
        clear H1
        rw [hw]
        by_cases h2 : N < 2
        · rw [if_pos h2]
          have h2I : (N : Int) < 2 := by omega
          have h1I : ¬ (1 : Int) < (N : Int) := by omega
          have hsw : IntKind.i64.wrap ((N : Int) * 16384) = (N : Int) * 16384 := IntWalk.i64_in _ ⟨by omega, by omega⟩
          go_wp2_with fail
          refine (awake_any _).mono ?_
          rintro e w6 ⟨_, rfl, rfl, H1⟩
          have H := H.join H1
          go_wp2_with fail
          go_ret
          exact ⟨_, rfl, rfl, H.bare⟩
        · rw [if_neg h2]
          have h2I : ¬ (N : Int) < 2 := by omega
          have h1I : (1 : Int) < (N : Int) := by omega
          go_wp2_with fail
          refine (awake_any _).mono ?_
          rintro e w6 ⟨_, rfl, rfl, H1⟩
          have H := H.join H1
          go_wp2_with fail
          go_ret
          exact ⟨_, rfl, rfl, H.bare⟩
  · have hR0 : R = [] := by rw [← hRes.out]; unfold resF; rw [her.out, if_neg h0]
    subst hR0
    have hne : (er == 0) = false := by simpa using h0
    clear h0
    go_wp2_with fail
    refine (awake_any _).mono ?_
    rintro e w6 ⟨_, rfl, rfl, H1⟩
    have H := H.join H1
    go_wp2_with fail
    go_ret
    exact ⟨_, rfl, rfl, H.bare⟩
end Go.Proofs.Ytfeamlbkogigkaa
/- huff: the walks of New and of the document's MayTable. -/
namespace Go.Proofs.Ytfeamlbkogigkaa
open Go.RowKit

/-- A table of lengths. -/
def Tbl (g : Nat) (l : List Int) : Piece := ex fun v => star (blk g (.cells ((nums (countsF l)).toArray.push v) 74)) (slc 3 1 v (tsymsF l).length (nums (natI (tsymsF l))))

set_option maxHeartbeats 1600000 in
theorem rmaytable_any {w : World} {v : Value} {n : Nat} {F : List Int} (hr : Rd w 1 v n (nums F)) (hn : n ≤ 1000000) :
    Calls Try.prog 22 #[v] w (Ret fun r w' => r = .int .i64 (terrF F) ∧ Own w w' []) := by
  have hl := Lib.hid (rd_len hr)
  obtain ⟨a, c, rfl, hc1, hc2⟩ := hr.shape
  have HR := Lib.hid hr
  have H := Own.start w
  obtain ⟨er, her⟩ : ∃ er, Hid (terrF F = er) := ⟨_, rfl⟩
  rw [her.out]
  obtain ⟨Z, hZ⟩ : ∃ Z, Hid (mayF F = Z) := ⟨_, rfl⟩
  clear hr
  go_enter Try.func22, Try.ntmps22
  go_wp2_with fail
  refine (rmay_any (HR.out.old H) hn).mono ?_
  rintro e w1 ⟨_, rfl, rfl, H1⟩
  have H := H.join H1
  clear H1
  rw [hZ.out]
  cases Z with
  | false =>
    have e1 : Hid (er = 1) := Lib.hid (by rw [← her.out]; unfold terrF; rw [hZ.out]; rfl)
    go_wp2_with fail
    go_ret
    exact ⟨_, rfl, by rw [e1.out]; rfl, H⟩
  | true =>
    have hm := mayF_len hZ.out
    go_wp2_with fail
    refine (rweight_any (HR.out.old H) hn hm.2).mono ?_
    rintro e w2 ⟨_, rfl, rfl, H1⟩
    have H := H.join H1
    clear H1
    go_wp2_with fail
    refine (rused_any (HR.out.old H) hn).mono ?_
    rintro e w3 ⟨_, rfl, rfl, H1⟩
    have H := H.join H1
    clear H1
    have her2 : er = if sumF wtF F = 32768 ∨ (usedF F).length = 0 ∨ (usedF F).length = 1 ∧ sumF wtF F = 16384 then 0 else 2 := by rw [← her.out]; unfold terrF; rw [hZ.out, if_pos rfl]
    generalize sumF wtF F = wt at *
    generalize (usedF F).length = u at *
    clear hm
    have fin : (er = 0 ∧ (wt = 32768 ∨ u = 0 ∨ u = 1 ∧ wt = 16384)) ∨ (er = 2 ∧ wt ≠ 32768 ∧ u ≠ 0 ∧ ¬ (u = 1 ∧ wt = 16384)) := by
      by_cases h : wt = 32768 ∨ u = 0 ∨ u = 1 ∧ wt = 16384
      · exact .inl ⟨by rw [her2, if_pos h], h⟩
      · exact .inr ⟨by rw [her2, if_neg h], by omega, by omega, by omega⟩
    clear her2
    rcases fin with ⟨h0, h⟩ | ⟨h0, h1, h2, h3⟩
    · have e0 := Lib.hid h0
      clear h0
      by_cases g1 : wt = 32768
      · subst g1
        clear h
        go_wp2_with fail
        go_ret
        exact ⟨_, rfl, by rw [e0.out]; rfl, H⟩
      · have g1b : (wt == 32768) = false := by simpa using g1
        by_cases g2 : u = 0
        · subst g2
          clear h
          go_wp2_with fail
          go_ret
          exact ⟨_, rfl, by rw [e0.out]; rfl, H⟩
        · have g2b : ((u : Int) == 0) = false := by simp; omega
          obtain ⟨rfl, rfl⟩ : u = 1 ∧ wt = 16384 := by omega
          clear h
          go_wp2_with fail
          go_ret
          exact ⟨_, rfl, by rw [e0.out]; rfl, H⟩
    · have e0 := Lib.hid h0
      clear h0
      have g1b : (wt == 32768) = false := by simpa using h1
      have g2b : ((u : Int) == 0) = false := by simp; omega
      by_cases g3 : u = 1
      · subst g3
        have g4 : (wt == 16384) = false := by simp; omega
        clear h1 h2 h3
        go_wp2_with fail
        go_ret
        exact ⟨_, rfl, by rw [e0.out]; rfl, H⟩
      · have g3b : ((u : Int) == 1) = false := by simp; omega
        clear h1 h2 h3
        go_wp2_with fail
        go_ret
        exact ⟨_, rfl, by rw [e0.out]; rfl, H⟩
end Go.Proofs.Ytfeamlbkogigkaa
/- huff: the walk of New. -/
namespace Go.Proofs.Ytfeamlbkogigkaa
open Go.RowKit

theorem build16 {cs : List Int} (h : cs.length = 16) (z : Value) :
    List.foldl (fun (cs : Array Value) (x : Value × Nat) => cs.setIfInBounds x.snd x.fst) #[.int .i64 0, .int .i64 0, .int .i64 0, .int .i64 0, .int .i64 0, .int .i64 0, .int .i64 0, .int .i64 0, .int .i64 0, .int .i64 0, .int .i64 0, .int .i64 0, .int .i64 0, .int .i64 0, .int .i64 0, .int .i64 0, z] (nums cs).zipIdx = (nums cs).toArray.push z := by
  match cs, h with
  | [c0, c1, c2, c3, c4, c5, c6, c7, c8, c9, c10, c11, c12, c13, c14, c15], _ => simp [nums, List.zipIdx]
theorem cells17 (cs : List Int) (z : Value) (h : cs.length = 16) (i : Nat) (hi : i < 16) : ((nums cs).toArray.push z)[i]? = some (.int .i64 (cs.getD i 0)) := by
  rw [Array.getElem?_push, if_neg (by rw [List.size_toArray, nums_length]; omega)]
  exact arr_get (by omega)
theorem cell16 (cs : List Int) (z : Value) (h : cs.length = 16) : ((nums cs).toArray.push z)[16]? = some z := by
  rw [Array.getElem?_push, if_pos (by rw [List.size_toArray, nums_length]; omega)]
theorem set16 (cs : List Int) (y z : Value) (h : cs.length = 16) : ((nums cs).toArray.push y).setIfInBounds 16 z = (nums cs).toArray.push z := by
  match cs, h with
  | [c0, c1, c2, c3, c4, c5, c6, c7, c8, c9, c10, c11, c12, c13, c14, c15], _ => simp [nums]

/-- A table's cells. -/
def tcells (F : List Int) (v : Value) : Array Value := (nums (countsF F)).toArray.push v

/-! ### how many are in use -/

set_option maxRecDepth 100000 in
set_option maxHeartbeats 6400000 in
theorem hnew_any {w : World} {v : Value} {n : Nat} {F : List Int} (hr : Rd w 1 v n (nums F)) (hn : n ≤ 1000000) :
    Calls Try.prog 21 #[v] w (Ret fun r w' => ∃ pv, r = .tuple #[pv, .int .i64 (terrF F)] ∧ (terrF F ≠ 0 → pv = .pointer none ∧ Own w w' []) ∧ (terrF F = 0 → ∃ g, pv = .pointer (some ⟨g, 0, none⟩) ∧ Own w w' [Tbl g F])) := by
  have hl := Lib.hid (rd_len hr)
  obtain ⟨a, c, rfl, hc1, hc2⟩ := hr.shape
  have HR := Lib.hid hr
  obtain ⟨er, her⟩ : ∃ er, Hid (terrF F = er) := ⟨_, rfl⟩
  rw [her.out]
  obtain ⟨Z, hZ⟩ : ∃ Z, Hid (mayF F = Z) := ⟨_, rfl⟩
  have HC := Lib.hid (counts_any hr hn)
  rw [hZ.out] at HC
  clear hr
  have hzl : (zerosF 16).length = 16 := by simp [zerosF]
  go_enter Try.func21, Try.ntmps21
  go_wp2_with fail
  refine HC.out.mono ?_
  rintro e w1 ⟨_, rfl, ⟨cs, hcs, rfl, hcs2⟩, H1⟩
  have HCS := Lib.hid hcs2
  have H := H1.alloc (.cells (nums (zerosF 16)).toArray 69)
  rw [arr_zero] at H
  clear hcs2 HC H1
  go_upto_region 2 with (first
    | (generalize w1.alloc _ = wa at *; rw [← arr_zero] at H; generalize w1.heap.size = cb at *; refine wpList_store16 rfl _ _ rfl rfl hzl hcs H rfl ?_; clear H; intro w2 H))
  cases Z with
  | false =>
    have e1 : Hid (er = 1) := Lib.hid (by rw [← her.out]; unfold terrF; rw [hZ.out]; rfl)
    go_wp2_with fail
    go_ret2
    refine ⟨_, rfl, _, by rw [e1.out]; rfl, fun _ => ⟨rfl, H.bare⟩, fun h => by rw [e1.out] at h; cases h⟩
  | true =>
    have hm := mayF_len hZ.out
    have hcs2 := HCS.out rfl
    subst hcs2
    have HF := Lib.hid hm.2
    have hn3 : n ≤ 320 := by have := hm.1; have := hl.out; omega
    clear hm HCS
    have hsz : (nums (countsF F)).length = 16 := by rw [nums_length]; exact hcs
    have hsz2 : (nums (countsF F)).toArray.size = 16 := by rw [List.size_toArray]; exact hsz
    go_upto_region 5 with (refine wpList_load16 rfl _ rfl rfl hcs H ?_)
    rw [build16 hcs]
    replace H := (H.alloc (.cells ((nums (countsF F)).toArray.push (.slice none 0 0)) 74)).swap.nil 3 1
    generalize w2.alloc (.cells ((nums (countsF F)).toArray.push (.slice none 0 0)) 74) = w3 at *
    generalize w2.heap.size = g at *
    have H : Own w w3 (blk g (.cells ((nums (countsF F)).toArray.push (.slice none 0 0)) 74) :: slc 3 1 (.slice none 0 0) 0 [] :: blk cb (.cells (nums (countsF F)).toArray 69) :: []) := ((H.front 2 rfl))
    clear hsz hsz2
    go_wp2_with fail
    go_loopw [7] (fun s7 wx => ∃ (k q : Nat) (v7 : Value), s7 = .int .i64 ((k : Int) + 1) ∧ k ≤ 15 ∧ Hid (q = lenT (tsymsN F k)) ∧ q ≤ n ∧ Own w wx (blk g (.cells (tcells F v7) 74) :: slc 3 1 v7 q (nums (natI (tsymsN F k))) :: blk cb (.cells (nums (countsF F)).toArray 69) :: [])) (fun s7 _ => 16 - (intOf s7).toNat)
    case atStart => exact ⟨0, 0, .slice none 0 0, by go_num, by omega, Lib.hid rfl, by omega, H⟩
    case round =>
      clear H
      obtain ⟨k, q, v7, rfl, hk, hq, hqn, H⟩ := hrel
      by_cases hlt : k < 15
      · have hkI : (k : Int) + 1 ≤ 15 := by omega
        have hkw : IntKind.i64.wrap ((k : Int) + 1 + 1) = (k : Int) + 1 + 1 := IntWalk.i64_in _ ⟨by omega, by omega⟩
        go_wp2_with fail
        go_loopw [28] (fun s28 wx => ∃ (j q : Nat) (v7 : Value), s28 = .int .i64 j ∧ j ≤ n ∧ Hid (q = lenT (partT F k j)) ∧ q ≤ n + j ∧ Own w wx (blk g (.cells (tcells F v7) 74) :: slc 3 1 v7 q (nums (natI (partT F k j))) :: blk cb (.cells (nums (countsF F)).toArray 69) :: [])) (fun s28 _ => n - (intOf s28).toNat)
        case atStart => exact ⟨0, q, v7, by go_num, by omega, Lib.hid (by rw [hq.out]; simp [partT, symsN]), by omega, by simpa [partT, symsN] using H⟩
        case round =>
          clear H hq hqn
          obtain ⟨j, q, v7, rfl, hj, hq, hqn, H⟩ := hrel
          obtain ⟨a7, c7, rfl, hv1, hv2⟩ := (H.front 1 rfl).rd.shape
          by_cases hjn : j < n
          · have hjI : (j : Int) < (n : Int) := by omega
            obtain ⟨b, oo, rfl, c1⟩ := rd_at HR.out H hjn
            have hs := symsN_succ (l := F) (k + 1) j
            obtain ⟨x, hx⟩ : ∃ x, F.getD j 0 = x := ⟨_, rfl⟩
            rw [hx] at c1 hs
            clear hx
            by_cases hxk : x = (k : Int) + 1
            · subst hxk
              rw [if_pos (by omega)] at hs
              have hxe : ((k : Int) + 1 == (k : Int) + 1) = true := by simp
              have c0 := H.cells 16
              unfold tcells at c0
              rw [cell16 _ _ hcs] at c0
              have HS : Hid (partT F k (j + 1) = partT F k j ++ [j]) := Lib.hid (by unfold partT; rw [hs, List.append_assoc])
              generalize partT F k j = TS at *
              have hq2 : Hid (q + 1 = lenT (partT F k (j + 1))) := Lib.hid (by rw [HS.out, hq.out]; unfold lenT; rw [List.length_append]; rfl)
              have hfit : 16 < (tcells F (.slice a7 q c7)).size := by unfold tcells; rw [Array.size_push, List.size_toArray, nums_length, hcs]; omega
              clear hs
              go_wp2_with (first
                | (at_builtin; refine wpList_append_one rfl _ _ rfl Try.underlying22 intInfo rfl (by decide) rfl (H.front 1 rfl) (news := [.int .i64 j]) rfl rfl rfl (by simp [Value.oneCell']) (by omega) (by omega) ?_; clear H c1 c0; intro v' w' H; rw [natI_snoc] at H; replace H := H.swap; obtain ⟨a8, c8, rfl, -⟩ := H.swap.rd.shape)
                | (refine wpList_store_slice rfl _ _ rfl rfl H rfl (by kernel_rfl) hfit ?_; clear H; intro w5 H; unfold tcells at H; rw [set16 _ _ _ hcs] at H))
              go_roundw
              case rel => exact ⟨_, _, _, ⟨j + 1, by go_num, by omega, q + 1, hq2, by omega, _, by rw [HS.out]; exact H⟩, rfl, rfl, rfl⟩
              case measure => simp [intOf]; omega
            · rw [if_neg (by omega)] at hs
              have hxe : (x == (k : Int) + 1) = false := by simpa using hxk
              have HS : Hid (partT F k (j + 1) = partT F k j) := Lib.hid (by unfold partT; rw [hs])
              clear hs hxk
              go_wp2_with fail
              go_roundw
              case rel => exact ⟨j + 1, q, _, by go_num, by omega, Lib.hid (by rw [HS.out]; exact hq.out), by omega, by rw [HS.out]; exact H⟩
              case measure => simp [intOf]; omega
          · obtain rfl : j = n := by omega
            have hjI : ¬ (j : Int) < (j : Int) := by omega
            have HS : Hid (partT F k j = tsymsN F (k + 1)) := Lib.hid (by unfold partT; rw [tsymsN]; unfold symsL; rw [hl.out])
            rw [HS.out] at H
            have hle := tsyms_len_le (fun x hx => (HF.out x hx).1) (k + 1)
            rw [hl.out] at hle
            have hq2 : Hid (q = lenT (tsymsN F (k + 1))) := Lib.hid (by rw [← HS.out]; exact hq.out)
            have hqj : q ≤ j := by rw [hq2.out]; exact hle
            clear hle hq hqn
            go_wp2_with fail
            go_roundw
            case rel => exact ⟨k + 1, q, _, by go_num, by omega, hq2, hqj, H⟩
            case measure => simp [intOf]; omega
      · have hkI : ¬ (k : Int) + 1 ≤ 15 := by omega
        obtain ⟨a7, c7, rfl, hv1, hv2⟩ := (H.front 1 rfl).rd.shape
        have hts : tsymsN F k = tsymsF F := by rw [show k = 15 by omega]; rfl
        rw [hts] at H
        have hqu : q = (usedF F).length := by rw [hq.out, hts]; unfold lenT; exact tsyms_used HF.out
        have hfw := few_weight F HF.out
        have hcnt : (F.countP fun x => decide (0 < x)) = q := by
          rw [hqu]; unfold usedF; rw [used_count F _ (Nat.le_refl _), List.take_length]
        rw [hcnt] at hfw
        have her2 : er = if sumF wtF F = 32768 ∨ q = 0 ∨ q = 1 ∧ sumF wtF F = 16384 then 0 else 2 := by rw [← her.out]; unfold terrF; rw [hZ.out, if_pos rfl, hqu]
        have hlf := left_law HF.out
        have hc1 : (countsF F).getD 1 0 = (cntL F 1 : Nat) := by rw [counts_get HF.out 1 (by omega)]; unfold cntC; rw [if_neg (by omega)]
        have hcb : ∀ k, 0 ≤ (countsF F).getD k 0 ∧ (countsF F).getD k 0 ≤ 1000000 := by
          intro k
          rcases Nat.lt_or_ge k 16 with h | h
          · rw [counts_get HF.out k h]
            unfold cntC
            split
            · omega
            · have := cntL_le F k; have := hl.out; omega
          · rw [List.getD_eq_getElem?_getD, List.getElem?_eq_none (by rw [counts_length]; exact h)]; simp
        have HL := Lib.hid (fun w => left_any (w := w) hcs hcb)
        have c0 := H.cells 16
        have c1 := (H.front 2 rfl).cells 1
        unfold tcells at c0
        rw [cell16 _ _ hcs] at c0
        rw [arr_get (by omega), hc1] at c1
        obtain ⟨lf, hlfE⟩ : ∃ lf, Hid (leftF (countsF F) = lf) := ⟨_, rfl⟩
        rw [hlfE.out] at HL hlf
        have hlf2 : lf = if sumF wtF F ≤ 32768 then 32768 - sumF wtF F else -1 := hlf
        clear hcnt hlf hcb hts
        have hql : q = (tsymsF F).length := by rw [hqu]; exact (tsyms_used HF.out).symm
        have fin : ∀ (wz : World), Own w wz (blk g (.cells (tcells F (.slice a7 q c7)) 74) :: slc 3 1 (.slice a7 q c7) q (nums (natI (tsymsF F))) :: blk cb (.cells (nums (countsF F)).toArray 69) :: []) → Own w wz [Tbl g F] := fun wz h => by
          have h2 : Own w wz [blk g (.cells (tcells F (.slice a7 q c7)) 74), slc 3 1 (.slice a7 q c7) q (nums (natI (tsymsF F)))] := (((h.front 2 rfl).drop))
          refine Own.unex (f := fun v => Go.Proofs.Ytfeamlbkogigkaa.star (blk g (.cells ((nums (countsF F)).toArray.push v) 74)) (slc 3 1 v (tsymsF F).length (nums (natI (tsymsF F))))) (.slice a7 q c7) (Own.unstar ?_)
          rw [← hql]
          exact h2
        have FIN := Lib.hid fin
        clear fin hql hqu
        obtain ⟨cn, hcn⟩ : ∃ cn, cntL F 1 = cn := ⟨_, rfl⟩
        rw [hcn] at c1 hfw
        generalize sumF wtF F = wt at *
        clear hcn hc1
        have cases6 : (q = 0 ∧ ¬ lf < 0 ∧ 0 < lf ∧ er = 0) ∨ (q = 1 ∧ cn = 1 ∧ ¬ lf < 0 ∧ 0 < lf ∧ er = 0) ∨ (q = 1 ∧ cn ≠ 1 ∧ ¬ lf < 0 ∧ 0 < lf ∧ er = 2) ∨ (2 ≤ q ∧ lf < 0 ∧ er = 2) ∨ (2 ≤ q ∧ lf = 0 ∧ er = 0) ∨ (2 ≤ q ∧ ¬ lf < 0 ∧ 0 < lf ∧ er = 2) := by
          rw [her2, hlf2]
          clear her2 hlf2
          rcases (by omega : q = 0 ∨ q = 1 ∨ 2 ≤ q) with h0 | h0 | h0
          · left
            have := hfw.1 h0
            rw [if_pos (by omega), if_pos (.inr (.inl h0))]
            omega
          · have h1 := hfw.2 h0
            rw [if_pos (by omega)]
            by_cases h2 : cn = 1
            · have := h1.2.2 h2
              right; left
              rw [if_pos (.inr (.inr ⟨h0, this⟩))]
              omega
            · right; right; left
              have h3 : wt ≠ 16384 := fun h => h2 (h1.2.1 h)
              rw [if_neg (by omega)]
              omega
          · right; right; right
            by_cases h2 : wt ≤ 32768
            · rw [if_pos h2]
              by_cases h3 : wt = 32768
              · right; left
                rw [if_pos (.inl h3)]
                omega
              · right; right
                rw [if_neg (by omega)]
                omega
            · left
              rw [if_neg h2, if_neg (by omega)]
              omega
        clear hfw her2 hlf2 hq hqn
        rcases cases6 with ⟨h1, h2, h3, h4⟩ | ⟨h1, h5, h2, h3, h4⟩ | ⟨h1, h5, h2, h3, h4⟩ | ⟨h1, h2, h4⟩ | ⟨h1, h2, h4⟩ | ⟨h1, h2, h3, h4⟩
        case' inl => subst h1
        case' inr.inl =>
          subst h1 h5
          have g1 : ((1 : Int) == 0) = false := rfl
        case' inr.inr.inl =>
          subst h1
          have g1 : ((1 : Int) == 0) = false := rfl
          have g2 : ((cn : Int) == 1) = false := by simp; omega
        case' inr.inr.inr.inl =>
          have g1 : ((q : Int) == 0) = false := by simp; omega
          have g2 : ((q : Int) == 1) = false := by simp; omega
        case' inr.inr.inr.inr.inl =>
          subst h2
          have g1 : ((q : Int) == 0) = false := by simp; omega
          have g2 : ((q : Int) == 1) = false := by simp; omega
        case' inr.inr.inr.inr.inr =>
          have g1 : ((q : Int) == 0) = false := by simp; omega
          have g2 : ((q : Int) == 1) = false := by simp; omega
        all_goals
          have e4 := Lib.hid h4
          clear h4
          go_wp2_with (refine wpList_load16 rfl _ rfl rfl hcs (H.front 2 rfl) ?_)
          refine (HL.out _).mono ?_
          rintro e w4 ⟨_, rfl, rfl, H1⟩
          have H := H.join H1
          clear H1 c0 c1
          go_wp2_with fail
          go_ret2
          first
            | exact ⟨_, rfl, _, by rw [e4.out]; rfl, fun h => absurd e4.out h, fun _ => ⟨g, rfl, FIN.out _ H⟩⟩
            | exact ⟨_, rfl, _, by rw [e4.out]; rfl, fun _ => ⟨rfl, H.bare⟩, fun h => by rw [e4.out] at h; cases h⟩
end Go.Proofs.Ytfeamlbkogigkaa
/- huff: the walk of the law on tables. -/
namespace Go.Proofs.Ytfeamlbkogigkaa
open Go.RowKit

set_option maxRecDepth 100000 in
set_option maxHeartbeats 3200000 in
theorem lawtables_any {w : World} {v : Value} {n : Nat} {F0 : List Int} (hr0 : Rd w 1 v n (nums F0)) :
    Calls Try.prog 7 #[v] w (Ret fun r w' => r = .bool true ∧ Own w w' []) := by
  have hs := some_any (w := w) hr0
  obtain ⟨F, hF⟩ : ∃ F, Hid (F0.take 330 = F) := ⟨_, rfl⟩
  obtain ⟨m, hm⟩ : ∃ m, Hid (F.length = m) := ⟨_, rfl⟩
  have hm330 : m ≤ 330 := by rw [← hm.out, ← hF.out, List.length_take]; omega
  rw [hF.out, hm.out] at hs
  have HS := Lib.hid hs
  obtain ⟨va, vc, rfl, -⟩ := hr0.shape
  clear hr0 hs
  go_enter Try.func7, Try.ntmps7
  go_wp2_with fail
  refine HS.out.mono ?_
  rintro e w1 ⟨r, rfl, hr, H⟩
  obtain ⟨a, c, rfl, hc1, hc2⟩ := hr.shape
  have HR := Lib.hid hr
  clear hr HS
  obtain ⟨er, her⟩ : ∃ er, Hid (terrF F = er) := ⟨_, rfl⟩
  go_wp2_with fail
  refine (hnew_any (F := F) (HR.out.old H) (by omega)).mono ?_
  rintro e w2 ⟨_, rfl, pv, rfl, h1, h2⟩
  rw [her.out] at h1 h2 ⊢
  by_cases h0 : er = 0
  · subst h0
    obtain ⟨g, rfl, H1⟩ := h2 rfl
    have H := H.join H1
    clear h1 h2 H1
    go_wp2_with fail
    refine (rmaytable_any (F := F) (HR.out.old H) (by omega)).mono ?_
    rintro e w3 ⟨_, rfl, rfl, H1⟩
    rw [her.out]
    have H := H.join H1
    clear H1
    go_wp2_with fail
    refine (awake_any _).mono ?_
    rintro e w6 ⟨_, rfl, rfl, H1⟩
    have H := H.join H1
    go_wp2_with fail
    go_ret
    exact ⟨_, rfl, rfl, H.bare⟩
  · obtain ⟨rfl, H1⟩ := h1 h0
    have H := H.join H1
    have hne : (er == 0) = false := by simpa using h0
    have hnb : (er != 0) = true := by simpa using h0
    clear h1 h2 H1
    go_wp2_with fail
    refine (rmaytable_any (F := F) (HR.out.old H) (by omega)).mono ?_
    rintro e w3 ⟨_, rfl, rfl, H1⟩
    rw [her.out]
    have H := H.join H1
    clear H1
    go_wp2_with fail
    refine (awake_any _).mono ?_
    rintro e w6 ⟨_, rfl, rfl, H1⟩
    have H := H.join H1
    go_wp2_with fail
    go_ret
    exact ⟨_, rfl, rfl, H.bare⟩
end Go.Proofs.Ytfeamlbkogigkaa
/- Bits: the writer's state; bit. (Picked out of others by tools/pick.py, as are all XBw, XBr.) -/
namespace Go.Proofs.Ytfeamlbkogigkaa
open Go.RowKit

def u8s (xs : List Int) : List Value := xs.map (.int .u8)
/-- A writer of these bits, behind the pointer ⟨g, 0⟩. -/
def Wtr (g : Nat) (bs : List Bool) : Piece := ex fun v => star (blk g (.cells #[v, .int .i64 bs.length] 56)) (slc 5 1 v (nbytes bs.length) (u8s (bytesOf bs)))
theorem Own.wtr {w0 w : World} {ps : List Piece} {g : Nat} {bs : List Bool} (H : Own w0 w (Wtr g bs :: ps)) :
    ∃ a c, nbytes bs.length ≤ c ∧ c ≤ 9223372036854775807 ∧ Own w0 w (blk g (.cells #[.slice a (nbytes bs.length) c, .int .i64 bs.length] 56) :: slc 5 1 (.slice a (nbytes bs.length) c) (nbytes bs.length) (u8s (bytesOf bs)) :: ps) := by
  obtain ⟨v, H⟩ := H.ex
  replace H := H.star
  obtain ⟨a, c, rfl, h1, h2⟩ := (H.front 1 rfl).rd.shape
  exact ⟨a, c, h1, h2, H⟩
theorem Own.unwtr {w0 w : World} {ps : List Piece} {g : Nat} {bs : List Bool} {v : Value} {n m : Nat} {xs : List Value} (H : Own w0 w (blk g (.cells #[v, .int .i64 n] 56) :: slc 5 1 v m xs :: ps)) (hn : n = bs.length) (hm : m = nbytes bs.length) (hx : xs = u8s (bytesOf bs)) : Own w0 w (Wtr g bs :: ps) := by
  subst hn hm hx
  exact H.unstar.unex v
set_option maxHeartbeats 400000 in
theorem bit_any {w0 w : World} {ps : List Piece} {g : Nat} {bs : List Bool} (b : Bool) (H : Own w0 w (Wtr g bs :: ps)) (hl : bs.length ≤ 35184372088832) :
    Calls Try.prog 41 #[.pointer (some ⟨g, 0, none⟩), .int .i64 (bi b)] w (Ret fun _ w' => Own w0 w' (Wtr g (bs ++ [b]) :: ps)) := by
  have hb := bi_bd b
  obtain ⟨c, hcc⟩ : ∃ c, Hid (bi b = c) := ⟨_, rfl⟩
  rw [hcc.out] at hb ⊢
  obtain ⟨hb0, hb1⟩ := hb
  obtain ⟨m, hm⟩ : ∃ m, Hid (bs.length = m) := ⟨_, rfl⟩
  have hlm := hl
  rw [hm.out] at hlm
  obtain ⟨a, cp, hc1, hc2, H⟩ := H.wtr
  rw [hm.out] at H hc1
  have c0 := H.cells
  go_enter Try.func41, Try.ntmps41
  obtain ⟨r, hr⟩ : ∃ r, Hid (r = m % 8) := ⟨_, Lib.hid rfl⟩
  obtain ⟨q, hq⟩ : ∃ q, Hid (q = m / 8) := ⟨_, Lib.hid rfl⟩
  have hrt : (m : Int).tmod 8 = (r : Int) := by have := hr.out; rw [Int.tmod_eq_emod_of_nonneg (by omega)]; omega
  have hqt : (m : Int).tdiv 8 = (q : Int) := by have := hq.out; rw [Int.tdiv_eq_ediv_of_nonneg (by omega)]; omega
  have hrt' : (m : Int) % 8 = (r : Int) := by have := hr.out; omega
  have hqt' : (m : Int) / 8 = (q : Int) := by have := hq.out; omega
  have hr8 : r < 8 := by have := hr.out; omega
  have hsn := Lib.hid (bytesOf_snoc bs b)
  go_upto_if 9 with (fail)
  go_cut [] (fun wx => ∃ a c N L, N = nbytes (m + 1) ∧ N ≤ c ∧ c ≤ 9223372036854775807 ∧ Hid (L = if bs.length % 8 = 0 then bytesOf bs ++ [0] else bytesOf bs) ∧ Own w0 wx (blk g (.cells #[.slice a N c, .int .i64 m] 56) :: slc 5 1 (.slice a N c) N (u8s L) :: ps))
  case first =>
    by_cases h0 : r = 0
    · subst h0
      go_wp2_with (first
        | (at_builtin; refine wpList_append_one rfl _ _ rfl Try.underlying54 u8Info rfl (by decide) rfl H.swap rfl rfl rfl (by simp [Value.oneCell']) (by unfold nbytes; omega) (by unfold nbytes; omega) ?_; clear H c0; intro v' w' H; replace H := H.swap)
        | (obtain ⟨a', c', rfl, h1', h2'⟩ := (H.front 1 rfl).rd.shape; refine wpList_store_slice rfl _ _ rfl rfl H rfl (by kernel_rfl) (by simp) ?_; clear H; intro w2 H))
      go_meet
      exact ⟨a', c', nbytes m + 1, bytesOf bs ++ [0], by have := hr.out; unfold nbytes; omega, h1', h2', Lib.hid (by rw [if_pos (by have := hr.out; rw [hm.out]; omega)]), by simpa [u8s] using H⟩
    · have h0' : ((r : Int) == 0) = false := by simpa using h0
      go_wp2
      go_meet
      exact ⟨a, cp, nbytes m, bytesOf bs, by have := hr.out; unfold nbytes; omega, hc1, hc2, Lib.hid (by rw [if_neg (by have := hr.out; rw [hm.out]; omega)]), H⟩
  case rest =>
    clear H c0
    obtain ⟨a, cp, N, L, hN, hc1, hc2, hL, H⟩ := hcut
    obtain ⟨k1, k2, k3⟩ := hsn.out L hL.out
    rw [hm.out] at k1 k2 k3
    rw [← hq.out] at k2 k3
    rw [← hr.out] at k3
    have hqN : q < N := by have := hq.out; unfold nbytes at hN; omega
    have hqN' : (q : Int) < (N : Int) := by omega
    replace hN := Lib.hid hN
    have hwq : IntKind.i64.wrap (q : Int) = q := IntWalk.i64_in _ ⟨by omega, by omega⟩
    have hwr : IntKind.i64.wrap (r : Int) = r := IntWalk.i64_in _ ⟨by omega, by omega⟩
    have hx0 := (byteAt_bd bs q).1
    have hx1 := byteAt_bd' bs
    rw [hm.out, ← hq.out, ← hr.out] at hx1
    obtain ⟨x, hx⟩ : ∃ x, Hid (byteAt bs q = x) := ⟨_, rfl⟩
    rw [hx.out] at hx0 hx1 k2 k3
    have hlen : 0 < (u8s L).length := by have := hN.out; simp [u8s]; omega
    obtain ⟨g2, c', e, _, _, _, _, _, _⟩ := (H.front 1 rfl).at hlen
    cases e
    have hu : Hid ((u8s L)[q]? = some (.int .u8 x)) := Lib.hid (by simp [u8s, k2])
    have hor := or8 hr8 hx0 hx1 hb0 hb1
    obtain ⟨y, hy⟩ : ∃ y, Hid (x + 2 ^ r * c = y) := ⟨_, rfl⟩
    rw [hy.out] at hor
    go_upto_region 2 with (fail)
    refine wp_region_calm (fun w1 => Own w0 w1 (blk g (.cells #[.slice (some ⟨g2, 0, none⟩) N cp, .int .i64 m] 56) :: slc 5 1 (.slice (some ⟨g2, 0, none⟩) N cp) N (u8s L) :: ps)) 20 (by kernel_rfl) (by kernel_rfl) H.drew ?_
    simp only [List.take_succ_cons, List.take_zero, List.drop_succ_cons, List.drop_zero]
    repeat
      refine calm_value (v := ?_) (by decide) rfl (fun σ w1 hS => ?_) ?_; rotate_left
      · have c0 := hS.cells
        obtain ⟨_, _, e, _, _, _, _, c1, _⟩ := (hS.front 1 rfl).at hlen
        cases e
        replace c1 := c1 q _ hu.out
        first | (go_simp; rfl) | rfl
      simp only [Act.put, List.setIfInBounds_toArray, List.set_cons_zero, List.set_cons_succ]
    refine calm_nil ?_
    intro wd HD
    clear H
    go_wp2_with (first
      | (refine wpList_store_slc rfl _ _ rfl rfl HD.swap (.int .u8 y) rfl (by kernel_rfl) hqN rfl ?_; clear HD; intro w2 HD; replace HD := HD.swap; have c0 := HD.cells)
      | (refine wpList_store_int rfl _ _ rfl rfl HD rfl (by kernel_rfl) (by simp) ?_; clear HD c0; intro w3 HD))
    go_end0
    refine ⟨_, rfl, HD.unwtr (n := m + 1) ?_ ?_ ?_⟩
    · simp [hm.out]
    · have := hN.out; simp [hm.out]; exact this
    · rw [k3, hcc.out, hy.out]; simp [u8s]
end Go.Proofs.Ytfeamlbkogigkaa
/- Bits: bytes as bits, plainly. No program in sight. -/
namespace Go.Proofs.Ytfeamlbkogigkaa
open Go.RowKit

def cut (n : Int) : Nat := (min (max n 0) 62).toNat
/-- The k-th of what Code puts. -/
theorem codeBits_take (v : Int) (m k : Nat) (hk : k < m) : (bitsOf v m).reverse.take (k + 1) = (bitsOf v m).reverse.take k ++ [bitOf v (m - 1 - k)] := by
  rw [List.take_succ_eq_append_getElem (by simpa [bitsOf_length] using hk)]
  simp [bitsOf]
def byteNums (s : ByteArray) : List Int := s.data.toList.map fun b => (b.toNat : Int)
theorem byteCells_nums (s : ByteArray) : byteCells s = u8s (byteNums s) := by simp [byteCells, u8s, byteNums]
theorem byteNums_length (s : ByteArray) : (byteNums s).length = s.size := by simp [byteNums]
theorem byteNums_bd (s : ByteArray) : ∀ x ∈ byteNums s, 0 ≤ x ∧ x < 256 := by
  intro x hx
  obtain ⟨b, _, rfl⟩ := List.mem_map.1 hx
  have := b.toNat_lt
  omega
/-- Bits of bytes. -/
def bitsOfNums (ns : List Int) : List Bool := ns.flatMap (bitsOf · 8)
theorem bitsOfNums_length (ns : List Int) : (bitsOfNums ns).length = 8 * ns.length := by
  induction ns with
  | nil => rfl
  | cons n ns ih =>
    simp only [bitsOfNums, List.flatMap_cons, List.length_append, bitsOf_length, List.length_cons] at ih ⊢
    omega
theorem byteAt_append (bs cs : List Bool) (h : bs.length % 8 = 0) (k : Nat) (hk : k < bs.length / 8) : byteAt (bs ++ cs) k = byteAt bs k := by
  unfold byteAt
  rw [List.drop_append_of_le_length (by omega), List.take_append_of_le_length (by simp; omega)]
theorem byteAt_append' (bs cs : List Bool) (h : bs.length % 8 = 0) (k : Nat) : byteAt (bs ++ cs) (bs.length / 8 + k) = byteAt cs k := by
  unfold byteAt
  rw [List.drop_append, List.drop_eq_nil_of_le (by omega), List.nil_append]
  congr 3
  omega
/-- A whole byte in front. -/
theorem bytesOf_byte (b8 cs : List Bool) (h : b8.length = 8) : bytesOf (b8 ++ cs) = valOf b8 :: bytesOf cs := by
  unfold bytesOf
  rw [show nbytes (b8 ++ cs).length = nbytes cs.length + 1 by simp [nbytes]; omega, List.range_succ_eq_map, List.map_cons, List.map_map]
  congr 1
  · unfold byteAt
    simp [List.take_append_of_le_length (show 8 ≤ b8.length by omega), List.take_of_length_le (show b8.length ≤ 8 by omega)]
  · refine List.map_congr_left fun k _ => ?_
    have := byteAt_append' b8 cs (by omega) k
    rw [show b8.length / 8 = 1 by omega] at this
    show byteAt _ (k + 1) = _
    rw [Nat.add_comm]
    exact this
theorem bytesOf_nums (ns : List Int) (hb : ∀ x ∈ ns, 0 ≤ x ∧ x < 256) : bytesOf (bitsOfNums ns) = ns := by
  induction ns with
  | nil => rfl
  | cons n ns ih =>
    show bytesOf (bitsOf n 8 ++ bitsOfNums ns) = _
    rw [bytesOf_byte _ _ (bitsOf_length n 8), ih fun x hx => hb x (List.mem_cons_of_mem _ hx), valOf_bitsOf]
    have := hb n List.mem_cons_self
    congr 1
    omega
theorem bytesOf_append (bs cs : List Bool) (h : bs.length % 8 = 0) : bytesOf (bs ++ cs) = bytesOf bs ++ bytesOf cs := by
  unfold bytesOf
  rw [show nbytes (bs ++ cs).length = bs.length / 8 + nbytes cs.length by simp [nbytes]; omega, show nbytes bs.length = bs.length / 8 by unfold nbytes; omega, List.range_add, List.map_append, List.map_map]
  congr 1
  · exact List.map_congr_left fun k hk => byteAt_append bs cs h k (List.mem_range.1 hk)
  · exact List.map_congr_left fun k _ => byteAt_append' bs cs h k
/-- What Text puts. -/
def textBits (s : ByteArray) : List Bool := bitsOfNums (byteNums s)
theorem textBits_length (s : ByteArray) : (textBits s).length = 8 * s.size := by rw [textBits, bitsOfNums_length, byteNums_length]
/-- The text that bits are. -/
def textOf (bs : List Bool) : ByteArray := strOfNums (bytesOf bs)
theorem bitsOfNums_get (ns : List Int) : ∀ (q r : Nat), r < 8 → (bitsOfNums ns)[8 * q + r]? = (ns[q]?).map (bitOf · r) := by
  induction ns with
  | nil => intro q r _; simp [bitsOfNums]
  | cons n ns ih =>
    intro q r hr
    show (bitsOf n 8 ++ bitsOfNums ns)[8 * q + r]? = _
    cases q with
    | zero =>
      rw [List.getElem?_append_left (by rw [bitsOf_length]; omega)]
      simp [bitsOf, hr]
    | succ q =>
      rw [List.getElem?_append_right (by rw [bitsOf_length]; omega), bitsOf_length, show 8 * (q + 1) + r - 8 = 8 * q + r by omega, ih q r hr]
      rfl
theorem textBits_get (s : ByteArray) {q r : Nat} (hq : q < s.size) (hr : r < 8) : (textBits s)[8 * q + r]? = some (bitOf ((s[q].toNat : Nat) : Int) r) := by
  have h : (byteNums s)[q]? = some ((s[q].toNat : Nat) : Int) := by
    have : q < s.data.size := hq
    simp only [byteNums, List.getElem?_map, Array.getElem?_toList, Array.getElem?_eq_getElem this]
    rfl
  rw [textBits, bitsOfNums_get _ q r hr, h]
  rfl
theorem byteNums_strOfNums (ns : List Int) (h : ∀ x ∈ ns, 0 ≤ x ∧ x < 256) : byteNums (strOfNums ns) = ns := by
  unfold byteNums strOfNums
  simp only [List.map_map]
  conv => rhs; rw [← List.map_id ns]
  refine List.map_congr_left fun x hx => ?_
  have := h x hx
  simp only [Function.comp, id]
  rw [UInt8.toNat_ofNat']
  omega
theorem aligned_get (bs : List Bool) (i : Nat) (hi : i < 8 * nbytes bs.length) : (aligned bs)[i]? = some (bs.getD i false) := by
  unfold aligned
  by_cases h : i < bs.length
  · rw [List.getElem?_append_left h, List.getElem?_eq_getElem h]
    simp [List.getD, h]
  · rw [List.getElem?_append_right (by omega), List.getElem?_replicate_of_lt (by unfold padN; unfold nbytes at hi; omega)]
    simp [List.getD, List.getElem?_eq_none (show bs.length ≤ i by omega)]
theorem bitsOfNums_bytesOf (bs : List Bool) : bitsOfNums (bytesOf bs) = aligned bs := by
  apply List.ext_getElem?
  intro i
  by_cases hi : i < 8 * nbytes bs.length
  · rw [aligned_get bs i hi]
    obtain ⟨q, hq⟩ : ∃ q, q = i / 8 := ⟨_, rfl⟩
    obtain ⟨r, hr⟩ : ∃ r, r = i % 8 := ⟨_, rfl⟩
    have e : i = 8 * q + r := by omega
    have hr8 : r < 8 := by omega
    rw [e, bitsOfNums_get _ q r hr8, bytesOf_get bs (by omega)]
    simp only [Option.map_some, Option.some.injEq]
    rw [byteAt, bitOf_valOf]
    simp only [List.getD, List.getElem?_take, hr8, if_true, List.getElem?_drop]
  · rw [List.getElem?_eq_none (by rw [bitsOfNums_length, bytesOf_length]; omega), List.getElem?_eq_none (by rw [aligned_length]; omega)]
theorem textBits_textOf (bs : List Bool) : textBits (textOf bs) = aligned bs := by
  unfold textBits textOf
  rw [byteNums_strOfNums _ (bytesOf_bd bs), bitsOfNums_bytesOf]
theorem textOf_size (bs : List Bool) : (textOf bs).size = nbytes bs.length := by
  have := textBits_length (textOf bs)
  rw [textBits_textOf, aligned_length] at this
  omega
theorem rev_bit (v : Int) (N m : Nat) (hm : m + 1 ≤ N) (bs r : List Bool) (p : Nat) (h : bs.drop p = (bitsOf v N).reverse ++ r) :
    (bs.drop (p + (N - (m + 1)))).take 1 = [bitOf v m] ∧ p + (N - (m + 1)) + 1 = p + (N - m) := by
  refine ⟨?_, by omega⟩
  rw [← List.drop_drop, h, List.drop_append_of_le_length (by rw [List.length_reverse, bitsOf_length]; omega)]
  have hg : ((bitsOf v N).reverse)[N - (m + 1)]? = some (bitOf v m) := by
    rw [List.getElem?_reverse (by rw [bitsOf_length]; omega), bitsOf_length]
    unfold bitsOf
    rw [List.getElem?_map, List.getElem?_range (by omega)]
    simp only [Option.map_some, Option.some.injEq]
    congr 1
    omega
  obtain ⟨hlt, he⟩ := List.getElem?_eq_some_iff.1 hg
  rw [List.drop_eq_getElem_cons hlt, he]
  simp
theorem last_zero (bs : List Bool) : 8 * nbytes bs.length - bs.length < 8 ∧ bs.length ≤ 8 * nbytes bs.length ∧ valOf (((textBits (textOf bs)).drop bs.length).take (8 * nbytes bs.length - bs.length)) = 0 := by
  refine ⟨by unfold nbytes; omega, by unfold nbytes; omega, ?_⟩
  rw [textBits_textOf, aligned, List.drop_left, List.take_replicate, valOf_zeros]
end Go.Proofs.Ytfeamlbkogigkaa
/- Bits: Reader.Left, Take. -/
namespace Go.Proofs.Ytfeamlbkogigkaa
open Go.RowKit

/-- A reader of a text, n bits taken. -/
def Rdr (g : Nat) (s : ByteArray) (n : Nat) : Piece := blk g (.cells #[.string s, .int .i64 n] 76)
set_option maxHeartbeats 400000 in
theorem rdleft_any {w0 w : World} {ps : List Piece} {g : Nat} {s : ByteArray} {n : Nat} (H : Own w0 w (Rdr g s n :: ps)) (hs : s.size ≤ 281474976710656) (hn : n ≤ 2251799813685248) :
    Calls Try.prog 26 #[.pointer (some ⟨g, 0, none⟩)] w fun e w' => e = .returned (.int .i64 (8 * s.size - n)) ∧ Own w0 w' (Rdr g s n :: ps) := by
  unfold Rdr at H ⊢
  obtain ⟨z, hz⟩ : ∃ z, Hid (s.size = z) := ⟨_, rfl⟩
  have hz2 := hz.out
  rw [hz2] at hs ⊢
  have hw : IntKind.i64.wrap (8 * (z : Int)) = 8 * z := IntWalk.i64_in _ ⟨by omega, by omega⟩
  have hw2 : IntKind.i64.wrap (8 * (z : Int) - n) = 8 * z - n := IntWalk.i64_in _ ⟨by omega, by omega⟩
  go_enter Try.func26, Try.ntmps26
  go_upto_region 3 with (fail)
  refine wp_region_calm (fun w1 => Own w0 w1 (blk g (.cells #[.string s, .int .i64 n] 76) :: ps)) 11 (by kernel_rfl) (by kernel_rfl) H.drew ?_
  simp only [List.take_succ_cons, List.take_zero, List.drop_succ_cons, List.drop_zero]
  repeat
    refine calm_value (v := ?_) (by decide) rfl (fun σ w1 hS => ?_) ?_; rotate_left
    · have c0 := hS.cells
      first | (go_simp; rfl) | rfl
    simp only [Act.put, List.setIfInBounds_toArray, List.set_cons_zero, List.set_cons_succ]
  refine calm_nil ?_
  intro wd HD
  go_wp2
  go_ret
  exact ⟨rfl, HD⟩
set_option maxHeartbeats 800000 in
theorem take_yes {w0 w : World} {ps : List Piece} {g : Nat} {s : ByteArray} {n : Nat} (m : Nat) (H : Own w0 w (Rdr g s n :: ps)) (hs : s.size ≤ 281474976710656) (hm : m ≤ 62) (hn : n + m ≤ 8 * s.size) :
    Calls Try.prog 39 #[.pointer (some ⟨g, 0, none⟩), .int .i64 m] w (Ret fun v w' => v = .tuple #[.int .i64 (valOf (((textBits s).drop n).take m)), .bool true] ∧ Own w0 w' (Rdr g s (n + m) :: ps)) := by
  obtain ⟨z, hz⟩ : ∃ z, Hid (s.size = z) := ⟨_, rfl⟩
  have hz2 := hz.out
  rw [hz2] at hs hn
  clear hz2
  obtain ⟨bs, hbs⟩ : ∃ bs, Hid ((textBits s).drop n = bs) := ⟨_, rfl⟩
  rw [hbs.out]
  have hbl : Hid (bs.length = 8 * z - n) := Lib.hid (by rw [← hbs.out, List.length_drop, textBits_length, hz.out])
  go_enter Try.func39, Try.ntmps39
  go_wp2_with fail
  refine (rdleft_any H (by rw [hz.out]; exact hs) (by omega)).mono ?_
  rintro e w1 ⟨rfl, H1⟩
  rw [hz.out]
  clear H
  have hle : (m : Int) ≤ 8 * (z : Int) - n := by omega
  go_wp2_with fail
  go_loopw [6, 26] (fun x i wx => ∃ k : Nat, ∃ u : Int, k ≤ m ∧ i = .int .i64 k ∧ x = .int .i64 u ∧ Hid (u = valOf (bs.take k)) ∧ Own w0 wx (Rdr g s n :: ps)) (fun _ i _ => m - (intOf i).toNat)
  case atStart => exact ⟨0, 0, Nat.zero_le _, rfl, rfl, Lib.hid rfl, H1⟩
  case round =>
    clear H1
    obtain ⟨k, u, hk, rfl, rfl, hu, H⟩ := hrel
    unfold Rdr at H
    have c0 := H.cells
    by_cases hlt : k < m
    · obtain ⟨p, hp⟩ : ∃ p, Hid (n + k = p) := ⟨_, rfl⟩
      obtain ⟨r, hr⟩ : ∃ r, Hid (r = p % 8) := ⟨_, Lib.hid rfl⟩
      obtain ⟨q, hq⟩ : ∃ q, Hid (q = p / 8) := ⟨_, Lib.hid rfl⟩
      have hp8 : p < 8 * z := by have := hp.out; omega
      have hpi : (n : Int) + (k : Int) = (p : Int) := by have := hp.out; omega
      have hrt : (p : Int).tmod 8 = (r : Int) := by have := hr.out; rw [Int.tmod_eq_emod_of_nonneg (by omega)]; omega
      have hqt : (p : Int).tdiv 8 = (q : Int) := by have := hq.out; rw [Int.tdiv_eq_ediv_of_nonneg (by omega)]; omega
      have hrt' : (p : Int) % 8 = (r : Int) := by have := hr.out; omega
      have hqt' : (p : Int) / 8 = (q : Int) := by have := hq.out; omega
      have hr8 : r < 8 := by have := hr.out; omega
      have hqs : q < s.size := by have := hz.out; have := hq.out; omega
      obtain ⟨b, hb⟩ : ∃ b, Hid (bs[k]? = some b) := ⟨bs[k]'(by have := hbl.out; omega), Lib.hid (List.getElem?_eq_getElem _)⟩
      have hbb : Hid (bitOf ((s[q].toNat : Nat) : Int) r = b) := Lib.hid (by
        have h1 := textBits_get s hqs hr8
        have h2 := hb.out
        rw [← hbs.out, List.getElem?_drop] at h2
        have e : n + k = 8 * q + r := by have := hp.out; have := hq.out; have := hr.out; omega
        rw [e, h1] at h2
        exact Option.some.inj h2)
      have hx8 := s[q].toNat_lt
      have hand : bits .and .u8 ((s[q].toNat : Int) / 2 ^ r) 1 = bi b := by
        have h0 : (0 : Int) ≤ (s[q].toNat : Int) / 2 ^ r := Int.ediv_nonneg (by omega) (Int.le_of_lt (Int.pow_pos (by decide)))
        have h1 : (s[q].toNat : Int) / 2 ^ r ≤ (s[q].toNat : Int) := Int.ediv_le_self _ (by omega)
        rw [u8_and1 h0 (by omega), ← hbb.out, bi_bitOf]
      have hbd := bi_bd b
      obtain ⟨c, hc⟩ : ∃ c, Hid (bi b = c) := ⟨_, rfl⟩
      rw [hc.out] at hand hbd
      obtain ⟨hc0, hc1⟩ := hbd
      have hub := valOf_bd (bs.take k)
      rw [← hu.out, List.length_take_of_le (by have := hbl.out; omega)] at hub
      obtain ⟨hu0, hu1⟩ := hub
      have hor := or64 (show k ≤ 61 by omega) hu0 hu1 hc0 hc1
      go_wp2
      go_round
      case rel =>
        have hw : wrap64 (c * 2 ^ k) = c * 2 ^ k := by
          have hp : (2 : Int) ^ k ≤ 2 ^ 61 := pow2_le (by omega)
          have hp0 : (0 : Int) < 2 ^ k := Int.pow_pos (by decide)
          have h61 : (2 : Int) ^ 61 = 2305843009213693952 := by decide
          have : c = 0 ∨ c = 1 := by omega
          rcases this with rfl | rfl
          · exact IntWalk.wrap64_in _ ⟨by omega, by omega⟩
          · exact IntWalk.wrap64_in _ ⟨by omega, by omega⟩
        exact ⟨k + 1, u + 2 ^ k * c, by omega, by go_num, val_int (by rw [hw]; exact hor), Lib.hid (by
          rw [List.take_add_one, hb.out, Option.toList_some, valOf_snoc, ← hu.out, hc.out, List.length_take_of_le (by have := hbl.out; omega)]), H⟩
      case measure => simp [intOf]; omega
    · obtain rfl : k = m := by omega
      have hnk : Hid ((n : Int) + k = ((n + k : Nat) : Int)) := Lib.hid (by omega)
      go_wp2_with (refine wpList_store_int rfl _ _ rfl rfl H rfl (by kernel_rfl) (by simp) ?_; clear H c0; intro w3 H)
      go_ret2
      refine ⟨.tuple #[.int .i64 u, .bool true], rfl, by rw [hu.out], ?_⟩
      rw [hnk.out] at H
      simpa [Rdr] using H
set_option maxHeartbeats 800000 in
theorem take_no {w0 w : World} {ps : List Piece} {g : Nat} {s : ByteArray} {n : Nat} (m : Int) (hm1 : -9223372036854775808 ≤ m) (hm2 : m ≤ 9223372036854775807) (H : Own w0 w (Rdr g s n :: ps)) (hs : s.size ≤ 281474976710656) (hn : n ≤ 2251799813685248) (hno : m < 0 ∨ 62 < m ∨ 8 * (s.size : Int) - n < m) :
    Calls Try.prog 39 #[.pointer (some ⟨g, 0, none⟩), .int .i64 m] w (Ret fun v w' => v = .tuple #[.int .i64 0, .bool false] ∧ Own w0 w' (Rdr g s n :: ps)) := by
  obtain ⟨z, hz⟩ : ∃ z, Hid (s.size = z) := ⟨_, rfl⟩
  rw [hz.out] at hno
  go_enter Try.func39, Try.ntmps39
  by_cases h1 : m < 0
  · go_wp2
    go_ret2
    exact ⟨_, rfl, rfl, H⟩
  by_cases h2 : 62 < m
  · go_wp2
    go_ret2
    exact ⟨_, rfl, rfl, H⟩
  have h3 : 8 * (z : Int) - n < m := by omega
  clear hno
  go_wp2_with fail
  refine (rdleft_any H hs hn).mono ?_
  rintro e w1 ⟨rfl, H1⟩
  rw [hz.out]
  go_wp2
  go_ret2
  exact ⟨_, rfl, rfl, H1⟩
/-- What a taking answers, and how many bits are taken then. -/
def tkOk (s : ByteArray) (n : Nat) (m : Int) : Prop := 0 ≤ m ∧ m ≤ 62 ∧ m ≤ 8 * (s.size : Int) - n
instance (s : ByteArray) (n : Nat) (m : Int) : Decidable (tkOk s n m) := by unfold tkOk; infer_instance
def tkV (s : ByteArray) (n : Nat) (m : Int) : Int := if tkOk s n m then valOf (((textBits s).drop n).take m.toNat) else 0
def tkN (s : ByteArray) (n : Nat) (m : Int) : Nat := if tkOk s n m then n + m.toNat else n
theorem tkN_le {s : ByteArray} {n : Nat} {m : Int} (h : n ≤ 8 * s.size) : tkN s n m ≤ 8 * s.size := by
  unfold tkN
  split
  · next h2 => unfold tkOk at h2; omega
  · exact h
theorem take_any {w0 w : World} {ps : List Piece} {g : Nat} {s : ByteArray} {n : Nat} (m : Int) (hm : -9223372036854775808 ≤ m ∧ m ≤ 9223372036854775807) (H : Own w0 w (Rdr g s n :: ps)) (hs : s.size ≤ 1000000) (hn : n ≤ 8 * s.size) :
    Calls Try.prog 39 #[.pointer (some ⟨g, 0, none⟩), .int .i64 m] w (Ret fun v w' => v = .tuple #[.int .i64 (tkV s n m), .bool (decide (tkOk s n m))] ∧ Own w0 w' (Rdr g s (tkN s n m) :: ps)) := by
  by_cases h : tkOk s n m
  · have h' := h
    unfold tkOk at h'
    obtain ⟨k, rfl⟩ : ∃ k : Nat, m = k := ⟨m.toNat, by omega⟩
    have := take_yes k H (by omega) (by omega) (by omega)
    simpa [tkV, tkN, h] using this
  · have h' := h
    unfold tkOk at h'
    have := take_no m hm.1 hm.2 H (by omega) (by omega) (by omega)
    simpa [tkV, tkN, h] using this
end Go.Proofs.Ytfeamlbkogigkaa
/- huff: laws for the walk of Decode. -/
namespace Go.Proofs.Ytfeamlbkogigkaa
open Go.RowKit


set_option maxRecDepth 100000 in
set_option maxHeartbeats 6400000 in
/-- A symbol is taken. -/
theorem decode_any {w0 w : World} {ps : List Piece} {g rg n : Nat} {l : List Int} {s : ByteArray} (hall : ∀ x ∈ l, 0 ≤ x ∧ x ≤ 15) (hw : sumF wtF l ≤ 2 ^ 15) (hlen : l.length ≤ 1000000) (hs : s.size ≤ 281474976710656) (hn : n ≤ 8 * s.size)
    (H : Own w0 w (Rdr rg s n :: Tbl g l :: ps)) :
    Calls Try.prog 24 #[.pointer (some ⟨g, 0, none⟩), .pointer (some ⟨rg, 0, none⟩)] w (Ret fun r w' => r = .tuple #[.int .i64 (decF l ((textBits s).drop n)).1, .int .i64 (decF l ((textBits s).drop n)).2.1] ∧ Own w0 w' (Rdr rg s (n + (decF l ((textBits s).drop n)).2.2) :: Tbl g l :: ps)) := by
  obtain ⟨v, H⟩ := H.swap.ex
  have H := H.star
  obtain ⟨ta, tc, rfl, ht1, ht2⟩ := H.swap.rd.shape
  obtain ⟨bs, hbs⟩ : ∃ bs, Hid ((textBits s).drop n = bs) := ⟨_, rfl⟩
  rw [hbs.out]
  have hbl : Hid (bs.length = 8 * s.size - n) := Lib.hid (by rw [← hbs.out, List.length_drop, textBits_length])
  obtain ⟨x1, x2, x3, hD⟩ : ∃ x1 x2 x3, Hid (decF l bs = (x1, x2, x3)) := ⟨_, _, _, rfl⟩
  rw [hD.out]
  obtain ⟨q, hq⟩ : ∃ q, Hid ((tsymsF l).length = q) := ⟨_, rfl⟩
  rw [hq.out] at H
  have hcl := counts_length l
  have HALL := Lib.hid hall
  have HW := Lib.hid hw
  clear hall hw
  have H : Own w0 w (Rdr rg s n :: blk g (.cells (tcells l (.slice ta q tc)) 74) :: slc 3 1 (.slice ta q tc) q (nums (natI (tsymsF l))) :: ps) := (H.front 2 rfl)
  have fin : ∀ (wz : World) (m : Nat), Own w0 wz (Rdr rg s m :: blk g (.cells (tcells l (.slice ta q tc)) 74) :: slc 3 1 (.slice ta q tc) q (nums (natI (tsymsF l))) :: ps) → Own w0 wz (Rdr rg s m :: Tbl g l :: ps) := fun wz m h => by
    have h2 := (h.front 2 rfl).front 2 rfl
    refine (Own.unex (f := fun v => Go.Proofs.Ytfeamlbkogigkaa.star (blk g (.cells ((nums (countsF l)).toArray.push v) 74)) (slc 3 1 v (tsymsF l).length (nums (natI (tsymsF l))))) (.slice ta q tc) (Own.unstar ?_)).swap
    rw [hq.out]
    exact h2
  have FIN := Lib.hid fin
  clear fin
  go_enter Try.func24, Try.ntmps24
  go_wp2_with fail
  go_loopw [6, 7, 8, 20] (fun s6 s7 s8 s20 wx => ∃ (i : Nat) (c : Int) (y : Int × Int × Nat), s20 = .int .i64 i ∧ s6 = .int .i64 (2 * c) ∧ s7 = .int .i64 (lowF l (i + 1)) ∧ s8 = .int .i64 (atF l (i + 1)) ∧ i ≤ 15 ∧ i ≤ bs.length ∧ 0 ≤ c ∧ Hid (c < 2 ^ i) ∧ Hid (lowF l i + cntC l i ≤ c) ∧ Hid (decN l (15 - i) i c (bs.drop i) = y) ∧ Hid (y.1 = x1 ∧ y.2.1 = x2 ∧ i + y.2.2 = x3) ∧ Own w0 wx (Rdr rg s (n + i) :: blk g (.cells (tcells l (.slice ta q tc)) 74) :: slc 3 1 (.slice ta q tc) q (nums (natI (tsymsF l))) :: ps)) (fun _ _ _ s20 _ => 15 - (intOf s20).toNat)
  case atStart =>
    exact ⟨0, 0, _, by go_num, by go_num, by rw [lowF_succ, lowF_zero]; rfl, rfl, by omega, by omega, by omega, Lib.hid (by decide), Lib.hid (by rw [lowF_zero]; simp [cntC]), Lib.hid rfl, Lib.hid (by have := hD.out; unfold decF at this; simp [this]), H⟩
  case round =>
    clear H
    obtain ⟨i, c, y, rfl, rfl, rfl, rfl, hi, hib, hc0, hc2, hcl2, hy, hyx, H⟩ := hrel
    have hlow := low_le HALL.out HW.out (i + 1) (by omega)
    have hat := atF_le HALL.out (i + 1)
    by_cases hlt : i < 15
    · have hiI : (i : Int) < 15 := by omega
      have hci : c ≤ 32768 := by
        obtain ⟨p, hp, h2, h3⟩ := pow_pos_nat i (by omega)
        have := hc2.out
        rw [hp] at this
        omega
      have c0 := (H.front 1 rfl).cells (1 + i)
      unfold tcells at c0
      rw [cells17 _ _ hcl _ (by omega), counts_get HALL.out _ (by omega), show cntC l (1 + i) = cntC l (i + 1) by rw [Nat.add_comm]] at c0
      have hlow2 := low_le HALL.out HW.out (i + 1 + 1) (by omega)
      have hls := lowF_succ l (i + 1)
      have hats : atF l (i + 1 + 1) = atF l (i + 1) + cntC l (i + 1) := rfl
      have hat2 := atF_le HALL.out (i + 1 + 1)
      have hcn0 := cntC_nonneg l (i + 1)
      have hlow1 : lowF l (i + 1) ≤ 2 * c := by have := hcl2.out; rw [lowF_succ]; omega
      by_cases hbit : i < bs.length
      · obtain ⟨b, hb⟩ : ∃ b, bs[i]? = some b := ⟨bs[i], List.getElem?_eq_getElem hbit⟩
        have ht := take_yes (m := 1) H hs (by omega) (by have := hbl.out; omega)
        rw [show ((1 : Nat) : Int) = 1 from rfl] at ht
        have hval : ((textBits s).drop (n + i)).take 1 = [b] := by
          rw [← List.drop_drop, hbs.out]
          have : bs.drop i = b :: bs.drop (i + 1) := by
            obtain ⟨h1, h2⟩ := List.getElem?_eq_some_iff.1 hb
            rw [List.drop_eq_getElem_cons h1, h2]
          rw [this]; rfl
        rw [hval] at ht
        have hvb : valOf [b] = bi b := by simp [valOf]
        rw [hvb] at ht
        have hy2 := hy.out
        have hdrop : bs.drop i = b :: bs.drop (i + 1) := by
          obtain ⟨h1, h2⟩ := List.getElem?_eq_some_iff.1 hb
          rw [List.drop_eq_getElem_cons h1, h2]
        rw [hdrop, show 15 - i = (15 - (i + 1)) + 1 by omega, decN] at hy2
        have hbd := bi_bd b
        have hor := or_low hc0 (by omega) hbd.1 hbd.2
        have hc2' : Hid (2 * c + bi b < 2 ^ (i + 1)) := Lib.hid (by have := hc2.out; rw [Int.pow_succ]; omega)
        have hsl := symsL_length (l := l) (i + 1)
        have hcnt : cntC l (i + 1) = cntL l (i + 1) := by unfold cntC; rw [if_neg (by omega)]
        have hget := fun j h => tsymsN_get (l := l) (n := i) (m := 15) (i := j) hlt h
        have htl := tsymsN_length (l := l) i
        have HT := Lib.hid ht
        have HGET := Lib.hid hget
        obtain ⟨d, hd⟩ : ∃ d, bi b = d := ⟨_, rfl⟩
        rw [hd] at hy2 hor hc2' hbd HT
        clear ht hget hdrop hvb hval hb hd hy
        by_cases hh : 2 * c + d - lowF l (i + 1) < cntC l (i + 1)
        · obtain ⟨j, hj⟩ : ∃ j : Nat, 2 * c + d - lowF l (i + 1) = j := ⟨(2 * c + d - lowF l (i + 1)).toNat, by omega⟩
          have hjl : j < (symsL l (i + 1)).length := by omega
          rw [hj, Int.toNat_natCast, List.getElem?_eq_getElem hjl] at hy2
          simp only at hy2
          obtain ⟨sy, hsy⟩ : ∃ sy, (symsL l (i + 1))[j] = sy := ⟨_, rfl⟩
          rw [hsy] at hy2
          subst hy2
          obtain ⟨hx1, hx2, hx3⟩ := hyx.out
          simp only at hx1 hx2 hx3
          subst hx1 hx2 hx3
          have htq : (nums (natI (tsymsF l)))[(tsymsN l i).length + j]? = some (.int .i64 (sy : Int)) := by
            have h1 := HGET.out j (by omega)
            rw [List.getElem?_eq_getElem hjl, hsy] at h1
            refine nums_get ?_
            unfold natI
            rw [List.getElem?_map]
            show Option.map _ ((tsymsN l 15)[_]?) = _
            rw [h1]
            rfl
          have hidx : (tsymsN l i).length + j < q := by
            have h1 := HGET.out j (by omega)
            rw [List.getElem?_eq_getElem hjl] at h1
            have := (List.getElem?_eq_some_iff.1 h1).1
            rw [← hq.out]; exact this
          obtain ⟨ix, hix⟩ : ∃ ix, (tsymsN l i).length + j = ix := ⟨_, rfl⟩
          rw [hix] at htq hidx
          have hixI : atF l (i + 1) + (2 * c + d) - lowF l (i + 1) = (ix : Int) := by omega
          have hw1 : IntKind.i64.wrap (2 * c + d - lowF l (i + 1)) = 2 * c + d - lowF l (i + 1) := IntWalk.i64_in _ ⟨by omega, by omega⟩
          have hw2 : IntKind.i64.wrap (atF l (i + 1) + (2 * c + d)) = atF l (i + 1) + (2 * c + d) := IntWalk.i64_in _ ⟨by omega, by omega⟩
          have hw3 : IntKind.i64.wrap (atF l (i + 1) + (2 * c + d) - lowF l (i + 1)) = (ix : Int) := by rw [hixI]; exact IntWalk.i64_in _ ⟨by omega, by omega⟩
          have HTQ := Lib.hid htq
          clear htq hixI hix htl hjl hsy hj hcnt hsl hls hats hat2 hlow2 hcl2 hyx HGET
          generalize lowF l (i + 1) = lo at *
          generalize atF l (i + 1) = at_ at *
          generalize cntC l (i + 1) = k at *
          have hixI2 : (ix : Int) < (q : Int) := by omega
          go_wp2_with fail
          refine HT.out.mono ?_
          rintro e w2 ⟨_, rfl, rfl, H2⟩
          clear H c0
          have c1 := (H2.front 1 rfl).cells 16
          unfold tcells at c1
          rw [cell16 _ _ hcl] at c1
          obtain ⟨gb, go, _, he, -⟩ := (H2.front 2 rfl).rd.some (by rw [nums_length]; unfold natI; rw [List.length_map, hq.out]; omega)
          cases he
          have c2 := (H2.front 2 rfl).rd.cell HTQ.out
          go_wp2_with fail
          go_ret2
          exact ⟨_, rfl, rfl, FIN.out _ _ (by rw [← Nat.add_assoc]; exact H2)⟩
        · have hnone : (symsL l (i + 1))[(2 * c + d - lowF l (i + 1)).toNat]? = none := List.getElem?_eq_none (by omega)
          rw [hnone] at hy2
          simp only at hy2
          subst hy2
          have hyx2 : Hid ((decN l (15 - (i + 1)) (i + 1) (2 * c + d) (bs.drop (i + 1))).1 = x1 ∧ (decN l (15 - (i + 1)) (i + 1) (2 * c + d) (bs.drop (i + 1))).2.1 = x2 ∧ i + 1 + (decN l (15 - (i + 1)) (i + 1) (2 * c + d) (bs.drop (i + 1))).2.2 = x3) := Lib.hid (by
            obtain ⟨h1, h2, h3⟩ := hyx.out
            exact ⟨h1, h2, by rw [← h3]; simp only; omega⟩)
          have hcl3 : Hid (lowF l (i + 1) + cntC l (i + 1) ≤ 2 * c + d) := Lib.hid (by omega)
          have hcd : 0 ≤ 2 * c + d ∧ 2 * c + d ≤ 65537 := ⟨by omega, by omega⟩
          clear hnone hyx HGET htl hsl hcnt hcl2
          generalize hlo2 : lowF l (i + 1 + 1) = lo2 at *
          generalize hat2' : atF l (i + 1 + 1) = at2 at *
          generalize hlo : lowF l (i + 1) = lo at *
          generalize atF l (i + 1) = at_ at *
          generalize hkk : cntC l (i + 1) = k at *
          have HLO2 := Lib.hid hlo2
          have HAT2 := Lib.hid hat2'
          have HLO := Lib.hid hlo
          have HKK := Lib.hid hkk
          clear hlo2 hat2' hlo hkk
          have hw1 : IntKind.i64.wrap (2 * c + d - lo) = 2 * c + d - lo := IntWalk.i64_in _ ⟨by omega, by omega⟩
          have hw2 : IntKind.i64.wrap (at_ + k) = at2 := by rw [hats]; exact IntWalk.i64_in _ ⟨by omega, by omega⟩
          have hw3 : IntKind.i64.wrap (lo + k) = lo + k := IntWalk.i64_in _ ⟨by omega, by omega⟩
          have hw4 : IntKind.i64.wrap ((lo + k) * 2) = lo2 := by rw [hls, Int.mul_comm]; exact IntWalk.i64_in _ ⟨by omega, by omega⟩
          have hw5 : IntKind.i64.wrap ((2 * c + d) * 2) = 2 * (2 * c + d) := by rw [Int.mul_comm]; exact IntWalk.i64_in _ ⟨by omega, by omega⟩
          have hii : i + 1 ≤ bs.length := hbit
          obtain ⟨hcd0, hcd1⟩ := hcd
          clear hls hats hat hat2 hlow hlow2 hcd1 hbit
          go_wp2_with fail
          refine HT.out.mono ?_
          rintro e w2 ⟨_, rfl, rfl, H2⟩
          clear H c0
          go_wp2_with fail
          go_roundw
          case rel => exact ⟨i + 1, 2 * c + d, _, by go_num, by go_num, by rw [HLO2.out], by rw [HAT2.out], by omega, hii, hcd0, hc2', Lib.hid (by rw [HLO.out, HKK.out]; exact hcl3.out), Lib.hid rfl, hyx2, by rw [← Nat.add_assoc]; exact H2⟩
          case measure => simp [intOf]; omega
      · have hib2 : i = bs.length := by omega
        have hy2 := hy.out
        rw [List.drop_eq_nil_of_le (by omega), show 15 - i = (15 - (i + 1)) + 1 by omega, decN] at hy2
        subst hy2
        obtain ⟨hx1, hx2, hx3⟩ := hyx.out
        simp only at hx1 hx2 hx3
        rw [Nat.add_zero] at hx3
        subst hx1 hx2 hx3
        have ht := take_no 1 (by omega) (by omega) H hs (by have := hbl.out; omega) (.inr (.inr (by have := hbl.out; omega)))
        have HT := Lib.hid ht
        clear ht hls hats hat hat2 hlow hlow2 hib2
        go_wp2_with fail
        refine HT.out.mono ?_
        rintro e w2 ⟨_, rfl, rfl, H2⟩
        clear H c0
        go_wp2_with fail
        go_ret2
        exact ⟨_, rfl, rfl, FIN.out _ _ H2⟩
    · have hi15 : i = 15 := by omega
      have hiI : ¬ (i : Int) < 15 := by omega
      have hy2 := hy.out
      rw [show 15 - i = 0 by omega, decN] at hy2
      subst hy2
      obtain ⟨hx1, hx2, hx3⟩ := hyx.out
      simp only at hx1 hx2 hx3
      rw [Nat.add_zero] at hx3
      subst hx1 hx2 hx3
      clear hat hlow hi15
      go_wp2_with fail
      go_ret2
      exact ⟨_, rfl, rfl, FIN.out _ _ H⟩
end Go.Proofs.Ytfeamlbkogigkaa
/- Bits: the document's Left, Take. -/
namespace Go.Proofs.Ytfeamlbkogigkaa
open Go.RowKit

/-- The document's reader of a text, n bits taken. -/
def RRdr (g : Nat) (s : ByteArray) (n : Nat) : Piece := blk g (.cells #[.string s, .int .i64 n] 47)
set_option maxHeartbeats 400000 in
theorem rleft_any {w0 w : World} {ps : List Piece} {g : Nat} {s : ByteArray} {n : Nat} (H : Own w0 w (RRdr g s n :: ps)) (hs : s.size ≤ 281474976710656) (hn : n ≤ 2251799813685248) :
    Calls Try.prog 27 #[.pointer (some ⟨g, 0, none⟩)] w fun e w' => e = .returned (.int .i64 (8 * s.size - n)) ∧ Own w0 w' (RRdr g s n :: ps) := by
  unfold RRdr at H ⊢
  obtain ⟨z, hz⟩ : ∃ z, Hid (s.size = z) := ⟨_, rfl⟩
  have hz2 := hz.out
  rw [hz2] at hs ⊢
  have hw : IntKind.i64.wrap (8 * (z : Int)) = 8 * z := IntWalk.i64_in _ ⟨by omega, by omega⟩
  have hw2 : IntKind.i64.wrap (8 * (z : Int) - n) = 8 * z - n := IntWalk.i64_in _ ⟨by omega, by omega⟩
  go_enter Try.func27, Try.ntmps27
  go_upto_region 1 with (fail)
  refine wp_region_calm (fun w1 => Own w0 w1 (blk g (.cells #[.string s, .int .i64 n] 47) :: ps)) 11 (by kernel_rfl) (by kernel_rfl) H.drew ?_
  simp only [List.take_succ_cons, List.take_zero, List.drop_succ_cons, List.drop_zero]
  repeat
    refine calm_value (v := ?_) (by decide) rfl (fun σ w1 hS => ?_) ?_; rotate_left
    · have c0 := hS.cells
      first | (go_simp; rfl) | rfl
    simp only [Act.put, List.setIfInBounds_toArray, List.set_cons_zero, List.set_cons_succ]
  refine calm_nil ?_
  intro wd HD
  go_wp2
  go_ret
  exact ⟨rfl, HD⟩
set_option maxHeartbeats 800000 in
theorem rtake_yes {w0 w : World} {ps : List Piece} {g : Nat} {s : ByteArray} {n : Nat} (m : Nat) (H : Own w0 w (RRdr g s n :: ps)) (hs : s.size ≤ 281474976710656) (hm : m ≤ 62) (hn : n + m ≤ 8 * s.size) :
    Calls Try.prog 48 #[.pointer (some ⟨g, 0, none⟩), .int .i64 m] w (Ret fun v w' => v = .tuple #[.int .i64 (valOf (((textBits s).drop n).take m)), .bool true] ∧ Own w0 w' (RRdr g s (n + m) :: ps)) := by
  obtain ⟨z, hz⟩ : ∃ z, Hid (s.size = z) := ⟨_, rfl⟩
  have hz2 := hz.out
  rw [hz2] at hs hn
  clear hz2
  obtain ⟨bs, hbs⟩ : ∃ bs, Hid ((textBits s).drop n = bs) := ⟨_, rfl⟩
  rw [hbs.out]
  have hbl : Hid (bs.length = 8 * z - n) := Lib.hid (by rw [← hbs.out, List.length_drop, textBits_length, hz.out])
  go_enter Try.func48, Try.ntmps48
  go_wp2_with fail
  refine (rleft_any H (by rw [hz.out]; exact hs) (by omega)).mono ?_
  rintro e w1 ⟨rfl, H1⟩
  rw [hz.out]
  clear H
  have hle : (m : Int) ≤ 8 * (z : Int) - n := by omega
  go_wp2_with fail
  go_loopw [6, 7] (fun x i wx => ∃ k : Nat, ∃ u d : Int, k ≤ m ∧ i = .int .i64 d ∧ Hid (d = (m : Int) - 1 - k) ∧ x = .int .i64 u ∧ Hid (u = valOf ((bs.drop (m - k)).take k)) ∧ Own w0 wx (RRdr g s n :: ps)) (fun _ i _ => (intOf i + 1).toNat)
  case atStart => exact ⟨0, 0, _, Nat.zero_le _, rfl, Lib.hid (by omega), rfl, Lib.hid rfl, H1⟩
  case round =>
    clear H1
    obtain ⟨k, u, d, hk, rfl, hd, rfl, hu, H⟩ := hrel
    unfold RRdr at H
    have c0 := H.cells
    by_cases hlt : k < m
    · obtain ⟨j, hj⟩ : ∃ j, Hid (m - 1 - k = j) := ⟨_, rfl⟩
      obtain rfl : d = (j : Int) := by have := hd.out; have := hj.out; omega
      obtain ⟨p, hp⟩ : ∃ p, Hid (n + j = p) := ⟨_, rfl⟩
      obtain ⟨r, hr⟩ : ∃ r, Hid (r = p % 8) := ⟨_, Lib.hid rfl⟩
      obtain ⟨q, hq⟩ : ∃ q, Hid (q = p / 8) := ⟨_, Lib.hid rfl⟩
      have hp8 : p < 8 * z := by have := hp.out; have := hj.out; omega
      have hj62 : j < 62 := by have := hj.out; omega
      have hpi : (n : Int) + (j : Int) = (p : Int) := by have := hp.out; omega
      have hrt : (p : Int).tmod 8 = (r : Int) := by have := hr.out; rw [Int.tmod_eq_emod_of_nonneg (by omega)]; omega
      have hqt : (p : Int).tdiv 8 = (q : Int) := by have := hq.out; rw [Int.tdiv_eq_ediv_of_nonneg (by omega)]; omega
      have hrt' : (p : Int) % 8 = (r : Int) := by have := hr.out; omega
      have hqt' : (p : Int) / 8 = (q : Int) := by have := hq.out; omega
      have hr8 : r < 8 := by have := hr.out; omega
      have hqs : q < s.size := by have := hz.out; have := hq.out; omega
      have hjl : j < bs.length := by have := hbl.out; have := hj.out; omega
      obtain ⟨b, hb⟩ : ∃ b, Hid (bs[j]? = some b) := ⟨bs[j], Lib.hid (List.getElem?_eq_getElem _)⟩
      have hbb : Hid (bitOf ((s[q].toNat : Nat) : Int) r = b) := Lib.hid (by
        have h1 := textBits_get s hqs hr8
        have h2 := hb.out
        rw [← hbs.out, List.getElem?_drop] at h2
        have e : n + j = 8 * q + r := by have := hp.out; have := hq.out; have := hr.out; omega
        rw [e, h1] at h2
        exact Option.some.inj h2)
      have hx8 := s[q].toNat_lt
      have hand : bits .and .i64 ((s[q].toNat : Int) / 2 ^ r) 1 = bi b := by rw [i64_and1, ← hbb.out, bi_bitOf]
      have hbd := bi_bd b
      obtain ⟨c, hc⟩ : ∃ c, Hid (bi b = c) := ⟨_, rfl⟩
      rw [hc.out] at hand hbd
      obtain ⟨hc0, hc1⟩ := hbd
      have hub := valOf_bd ((bs.drop (m - k)).take k)
      rw [← hu.out, List.length_take_of_le (by have := hbl.out; rw [List.length_drop]; omega)] at hub
      obtain ⟨hu0, hu1⟩ := hub
      have hu2 : u ≤ 2305843009213693951 := by
        have h1 : (2 : Int) ^ k ≤ 2 ^ 61 := pow2_le (by omega)
        have h61 : (2 : Int) ^ 61 = 2305843009213693952 := by decide
        omega
      clear hu1
      go_wp2
      go_round
      case rel => exact ⟨k + 1, 2 * u + c, _, by omega, rfl, Lib.hid (by have := hd.out; omega), rfl, Lib.hid (by
          have e1 : m - (k + 1) = j := by have := hj.out; omega
          have e2 : m - k = j + 1 := by have := hj.out; omega
          have e3 : bs[j] = b := by have := hb.out; rw [List.getElem?_eq_getElem hjl] at this; exact Option.some.inj this
          rw [e1, List.drop_eq_getElem_cons hjl, List.take_succ_cons, e3, valOf, hu.out, hc.out, e2]
          omega), H⟩
      case measure => simp [intOf]
    · have hd0 : d < 0 := by have := hd.out; omega
      obtain rfl : k = m := by omega
      have hnk : Hid ((n : Int) + k = ((n + k : Nat) : Int)) := Lib.hid (by omega)
      go_wp2_with (refine wpList_store_int rfl _ _ rfl rfl H rfl (by kernel_rfl) (by simp) ?_; clear H c0; intro w3 H)
      go_ret2
      refine ⟨.tuple #[.int .i64 u, .bool true], rfl, by rw [hu.out]; simp, ?_⟩
      rw [hnk.out] at H
      simpa [RRdr] using H
set_option maxHeartbeats 800000 in
theorem rtake_no {w0 w : World} {ps : List Piece} {g : Nat} {s : ByteArray} {n : Nat} (m : Int) (hm1 : -9223372036854775808 ≤ m) (hm2 : m ≤ 9223372036854775807) (H : Own w0 w (RRdr g s n :: ps)) (hs : s.size ≤ 281474976710656) (hn : n ≤ 2251799813685248) (hno : m < 0 ∨ 62 < m ∨ 8 * (s.size : Int) - n < m) :
    Calls Try.prog 48 #[.pointer (some ⟨g, 0, none⟩), .int .i64 m] w (Ret fun v w' => v = .tuple #[.int .i64 0, .bool false] ∧ Own w0 w' (RRdr g s n :: ps)) := by
  obtain ⟨z, hz⟩ : ∃ z, Hid (s.size = z) := ⟨_, rfl⟩
  rw [hz.out] at hno
  go_enter Try.func48, Try.ntmps48
  by_cases h1 : m < 0
  · go_wp2
    go_ret2
    exact ⟨_, rfl, rfl, H⟩
  by_cases h2 : 62 < m
  · go_wp2
    go_ret2
    exact ⟨_, rfl, rfl, H⟩
  have h3 : 8 * (z : Int) - n < m := by omega
  clear hno
  go_wp2_with fail
  refine (rleft_any H hs hn).mono ?_
  rintro e w1 ⟨rfl, H1⟩
  rw [hz.out]
  go_wp2
  go_ret2
  exact ⟨_, rfl, rfl, H1⟩
theorem rtake_any {w0 w : World} {ps : List Piece} {g : Nat} {s : ByteArray} {n : Nat} (m : Int) (hm : -9223372036854775808 ≤ m ∧ m ≤ 9223372036854775807) (H : Own w0 w (RRdr g s n :: ps)) (hs : s.size ≤ 1000000) (hn : n ≤ 8 * s.size) :
    Calls Try.prog 48 #[.pointer (some ⟨g, 0, none⟩), .int .i64 m] w (Ret fun v w' => v = .tuple #[.int .i64 (tkV s n m), .bool (decide (tkOk s n m))] ∧ Own w0 w' (RRdr g s (tkN s n m) :: ps)) := by
  by_cases h : tkOk s n m
  · have h' := h
    unfold tkOk at h'
    obtain ⟨k, rfl⟩ : ∃ k : Nat, m = k := ⟨m.toNat, by omega⟩
    have := rtake_yes k H (by omega) (by omega) (by omega)
    simpa [tkV, tkN, h] using this
  · have h' := h
    unfold tkOk at h'
    have := rtake_no m hm.1 hm.2 H (by omega) (by omega) (by omega)
    simpa [tkV, tkN, h] using this
end Go.Proofs.Ytfeamlbkogigkaa
/- huff: the walks of the document's Find and Decode. -/
namespace Go.Proofs.Ytfeamlbkogigkaa
open Go.RowKit

set_option maxRecDepth 100000 in
set_option maxHeartbeats 6400000 in
theorem find_any {w0 w : World} {ps : List Piece} {rg n m : Nat} {l : List Int} {s : ByteArray} {v u : Value} (hall : ∀ x ∈ l, 0 ≤ x ∧ x ≤ 15) (hm : l.length = m) (hm2 : m ≤ 1000000) (hs : s.size ≤ 281474976710656) (hn : n ≤ 8 * s.size)
    (hrd : ∀ k wz, Own w0 wz (RRdr rg s k :: ps) → Rd wz 1 v m (nums l) ∧ Rd wz 1 u m (nums (codesF l)))
    (H : Own w0 w (RRdr rg s n :: ps)) :
    Calls Try.prog 40 #[v, u, .pointer (some ⟨rg, 0, none⟩)] w (Ret fun r w' => r = .tuple #[.int .i64 (decF l ((textBits s).drop n)).1, .int .i64 (decF l ((textBits s).drop n)).2.1] ∧ Own w0 w' (RRdr rg s (n + (decF l ((textBits s).drop n)).2.2) :: ps)) := by
  obtain ⟨h1, h2⟩ := hrd _ _ H
  obtain ⟨va, vc, rfl, hv1, hv2⟩ := h1.shape
  obtain ⟨ua, uc, rfl, hu1, hu2⟩ := h2.shape
  obtain ⟨bs, hbs⟩ : ∃ bs, Hid ((textBits s).drop n = bs) := ⟨_, rfl⟩
  rw [hbs.out]
  have hbl : Hid (bs.length = 8 * s.size - n) := Lib.hid (by rw [← hbs.out, List.length_drop, textBits_length])
  obtain ⟨x1, x2, x3, hD⟩ : ∃ x1 x2 x3, Hid (decF l bs = (x1, x2, x3)) := ⟨_, _, _, rfl⟩
  rw [hD.out]
  have HALL := Lib.hid hall
  have HRD := Lib.hid hrd
  have HM := Lib.hid hm
  clear hall hrd h1 h2 hm
  go_enter Try.func40, Try.ntmps40
  go_wp2_with fail
  go_loopw [8, 9] (fun s8 s9 wx => ∃ (i : Nat) (c : Int) (y : Int × Int × Nat), s9 = .int .i64 ((i : Int) + 1) ∧ s8 = .int .i64 c ∧ i ≤ 15 ∧ i ≤ bs.length ∧ 0 ≤ c ∧ Hid (c < 2 ^ i) ∧ Hid (lowF l i + cntC l i ≤ c) ∧ Hid (decN l (15 - i) i c (bs.drop i) = y) ∧ Hid (y.1 = x1 ∧ y.2.1 = x2 ∧ i + y.2.2 = x3) ∧ Own w0 wx (RRdr rg s (n + i) :: ps)) (fun _ s9 _ => 16 - (intOf s9).toNat)
  case atStart =>
    exact ⟨0, 0, _, by go_num, by go_num, by omega, by omega, by omega, Lib.hid (by decide), Lib.hid (by rw [lowF_zero]; simp [cntC]), Lib.hid rfl, Lib.hid (by have := hD.out; unfold decF at this; simp [this]), H⟩
  case round =>
    clear H
    obtain ⟨i, c, y, rfl, rfl, hi, hib, hc0, hc2, hcl2, hy, hyx, H⟩ := hrel
    by_cases hlt : i < 15
    · have hiI : (i : Int) + 1 ≤ 15 := by omega
      have hci : c ≤ 32768 := by
        obtain ⟨p, hp, h2, h3⟩ := pow_pos_nat i (by omega)
        have := hc2.out
        rw [hp] at this
        omega
      by_cases hbit : i < bs.length
      · obtain ⟨b, hb⟩ : ∃ b, bs[i]? = some b := ⟨bs[i], List.getElem?_eq_getElem hbit⟩
        have ht := rtake_yes (m := 1) H hs (by omega) (by have := hbl.out; omega)
        rw [show ((1 : Nat) : Int) = 1 from rfl] at ht
        have hval : ((textBits s).drop (n + i)).take 1 = [b] := by
          rw [← List.drop_drop, hbs.out]
          have : bs.drop i = b :: bs.drop (i + 1) := by
            obtain ⟨h1, h2⟩ := List.getElem?_eq_some_iff.1 hb
            rw [List.drop_eq_getElem_cons h1, h2]
          rw [this]; rfl
        rw [hval] at ht
        have hvb : valOf [b] = bi b := by simp [valOf]
        rw [hvb] at ht
        have hy2 := hy.out
        have hdrop : bs.drop i = b :: bs.drop (i + 1) := by
          obtain ⟨h1, h2⟩ := List.getElem?_eq_some_iff.1 hb
          rw [List.drop_eq_getElem_cons h1, h2]
        rw [hdrop, show 15 - i = (15 - (i + 1)) + 1 by omega, decN] at hy2
        have hbd := bi_bd b
        have hc2' : Hid (2 * c + bi b < 2 ^ (i + 1)) := Lib.hid (by have := hc2.out; rw [Int.pow_succ]; omega)
        have hsl := symsL_length (l := l) (i + 1)
        have hcnt : cntC l (i + 1) = cntL l (i + 1) := by unfold cntC; rw [if_neg (by omega)]
        have HT := Lib.hid ht
        obtain ⟨d, hd⟩ : ∃ d, bi b = d := ⟨_, rfl⟩
        rw [hd] at hy2 hc2' hbd HT
        have hlow1 : lowF l (i + 1) ≤ 2 * c + d := by have := hcl2.out; rw [lowF_succ]; omega
        have hcode := fun s => code_at (l := l) (n := i + 1) (s := s) (c := 2 * c + d) (by omega) hlow1
        have HCODE := Lib.hid hcode
        have hw1 : IntKind.i64.wrap (2 * c) = 2 * c := IntWalk.i64_in _ ⟨by omega, by omega⟩
        have hw2 : IntKind.i64.wrap (2 * c + d) = 2 * c + d := IntWalk.i64_in _ ⟨by omega, by omega⟩
        have hw3 : IntKind.i64.wrap ((i : Int) + 1 + 1) = (i : Int) + 1 + 1 := IntWalk.i64_in _ ⟨by omega, by omega⟩
        have HY2 := Lib.hid hy2
        have hcd0 : 0 ≤ 2 * c + d := by omega
        have HREST : Hid ((symsL l (i + 1))[(2 * c + d - lowF l (i + 1)).toNat]? = none → lowF l (i + 1) + cntC l (i + 1) ≤ 2 * c + d) := Lib.hid (fun h => by
          have := List.getElem?_eq_none_iff.1 h
          omega)
        clear ht hdrop hvb hval hb hd hy hcode hy2 hcnt hsl hlow1 hcl2 hc2
        have hii : i + 1 ≤ bs.length := hbit
        clear hbit
        go_wp2_with fail
        refine HT.out.mono ?_
        rintro e w2 ⟨_, rfl, rfl, H2⟩
        clear H HT
        go_wp2_with fail
        go_loopw [12] (fun s12 wx => ∃ j : Nat, s12 = .int .i64 j ∧ j ≤ m ∧ Hid (∀ t, t < j → ¬ (l.getD t 0 = ((i + 1 : Nat) : Int) ∧ codeF l t = 2 * c + d)) ∧ Own w0 wx (RRdr rg s (n + i + 1) :: ps)) (fun s12 _ => m - (intOf s12).toNat)
        case atStart => exact ⟨0, by go_num, by omega, Lib.hid (fun t h => by omega), H2⟩
        case round =>
          clear H2
          obtain ⟨j, rfl, hj, hno, H⟩ := hrel
          by_cases hjm : j < m
          · have hjI : (j : Int) < (m : Int) := by omega
            obtain ⟨r1, r2⟩ := HRD.out _ _ H
            have hjl : j < l.length := by have := HM.out; omega
            obtain ⟨b1, o1, rfl, c0⟩ := rd_at r1 (Own.start wr) hjm
            obtain ⟨b2, o2, rfl, c1⟩ := rd_at r2 (Own.start wr) hjm
            rw [codesF_get hjl] at c1
            have hmem : Hid (l.getD j 0 = ((i + 1 : Nat) : Int) → codeF l j = 2 * c + d → (symsL l (i + 1))[(2 * c + d - lowF l (i + 1)).toNat]? = some j) := Lib.hid (fun h1 h2 => (HCODE.out j).1 ⟨hjl, h1, h2⟩)
            have hno2 : Hid (¬ (l.getD j 0 = ((i + 1 : Nat) : Int) ∧ codeF l j = 2 * c + d) → ∀ t, t < j + 1 → ¬ (l.getD t 0 = ((i + 1 : Nat) : Int) ∧ codeF l t = 2 * c + d)) := Lib.hid (fun h t ht => by
              rcases Nat.lt_or_ge t j with h1 | h1
              · exact hno.out t h1
              · have : t = j := by omega
                subst this; exact h)
            generalize l.getD j 0 = x at *
            generalize codeF l j = cj at *
            clear r1 r2
            by_cases hx : x = (i : Int) + 1
            · have hxe : (x == (i : Int) + 1) = true := by simpa using hx
              by_cases hcj : cj = 2 * c + d
              · have hce : (cj == 2 * c + d) = true := by simpa using hcj
                have hy3 := HY2.out
                rw [hmem.out (by omega) hcj] at hy3
                simp only at hy3
                subst hy3
                obtain ⟨hx1, hx2, hx3⟩ := hyx.out
                simp only at hx1 hx2 hx3
                subst hx1 hx2 hx3
                clear hx hcj
                go_wp2_with fail
                go_ret2
                exact ⟨_, rfl, rfl, by rw [← Nat.add_assoc]; exact H⟩
              · have hce : (cj == 2 * c + d) = false := by simpa using hcj
                have hno3 := Lib.hid (hno2.out (fun h => hcj h.2))
                clear hcj hx
                go_wp2_with fail
                go_roundw
                case rel => exact ⟨j + 1, by go_num, by omega, hno3, H⟩
                case measure => simp [intOf]; omega
            · have hxe : (x == (i : Int) + 1) = false := by simpa using hx
              have hno3 := Lib.hid (hno2.out (fun h => hx (by omega)))
              clear hx
              go_wp2_with fail
              go_roundw
              case rel => exact ⟨j + 1, by go_num, by omega, hno3, H⟩
              case measure => simp [intOf]; omega
          · obtain rfl : j = m := by omega
            obtain ⟨r1, r2⟩ := HRD.out _ _ H
            have hjI : ¬ (j : Int) < (j : Int) := by omega
            have hnone : (symsL l (i + 1))[(2 * c + d - lowF l (i + 1)).toNat]? = none := by
              cases hq : (symsL l (i + 1))[(2 * c + d - lowF l (i + 1)).toNat]? with
              | none => rfl
              | some t =>
                have h3 := (HCODE.out t).2 hq
                exact absurd ⟨h3.2.1, h3.2.2⟩ (hno.out t (by have := HM.out; omega))
            have hy3 := HY2.out
            rw [hnone] at hy3
            simp only at hy3
            subst hy3
            have hyx2 : Hid ((decN l (15 - (i + 1)) (i + 1) (2 * c + d) (bs.drop (i + 1))).1 = x1 ∧ (decN l (15 - (i + 1)) (i + 1) (2 * c + d) (bs.drop (i + 1))).2.1 = x2 ∧ i + 1 + (decN l (15 - (i + 1)) (i + 1) (2 * c + d) (bs.drop (i + 1))).2.2 = x3) := Lib.hid (by
              obtain ⟨h1, h2, h3⟩ := hyx.out
              exact ⟨h1, h2, by rw [← h3]; simp only; omega⟩)
            have hcl3 := Lib.hid (HREST.out hnone)
            clear hnone r1 r2
            go_wp2_with fail
            go_roundw
            case rel => exact ⟨i + 1, 2 * c + d, _, by go_num, by go_num, by omega, hii, hcd0, hc2', hcl3, Lib.hid rfl, hyx2, by rw [← Nat.add_assoc]; exact H⟩
            case measure => simp [intOf]; omega
      · have hib2 : i = bs.length := by omega
        have hy2 := hy.out
        rw [List.drop_eq_nil_of_le (by omega), show 15 - i = (15 - (i + 1)) + 1 by omega, decN] at hy2
        subst hy2
        obtain ⟨hx1, hx2, hx3⟩ := hyx.out
        simp only at hx1 hx2 hx3
        rw [Nat.add_zero] at hx3
        subst hx1 hx2 hx3
        have ht := rtake_no 1 (by omega) (by omega) H hs (by have := hbl.out; omega) (.inr (.inr (by have := hbl.out; omega)))
        have HT := Lib.hid ht
        clear ht hib2
        go_wp2_with fail
        refine HT.out.mono ?_
        rintro e w2 ⟨_, rfl, rfl, H2⟩
        clear H
        go_wp2_with fail
        go_ret2
        exact ⟨_, rfl, rfl, H2⟩
    · have hi15 : i = 15 := by omega
      have hiI : ¬ (i : Int) + 1 ≤ 15 := by omega
      have hy2 := hy.out
      rw [show 15 - i = 0 by omega, decN] at hy2
      subst hy2
      obtain ⟨hx1, hx2, hx3⟩ := hyx.out
      simp only at hx1 hx2 hx3
      rw [Nat.add_zero] at hx3
      subst hx1 hx2 hx3
      clear hi15
      go_wp2_with fail
      go_ret2
      exact ⟨_, rfl, rfl, H⟩

set_option maxHeartbeats 1600000 in
theorem rdecode_any {w0 w : World} {ps : List Piece} {rg n m : Nat} {l : List Int} {s : ByteArray} {v : Value} (hok : terrF l = 0) (hm2 : m ≤ 1000000) (hs : s.size ≤ 281474976710656) (hn : n ≤ 8 * s.size)
    (hr : ∀ k wz, Own w0 wz (RRdr rg s k :: ps) → Rd wz 1 v m (nums l)) (H : Own w0 w (RRdr rg s n :: ps)) :
    Calls Try.prog 25 #[v, .pointer (some ⟨rg, 0, none⟩)] w (Ret fun r w' => r = .tuple #[.int .i64 (decF l ((textBits s).drop n)).1, .int .i64 (decF l ((textBits s).drop n)).2.1] ∧ Own w0 w' (RRdr rg s (n + (decF l ((textBits s).drop n)).2.2) :: ps)) := by
  obtain ⟨hok1, hok2, hok3⟩ := table_ok hok
  have hml := rd_len (hr _ _ H)
  obtain ⟨va, vc, rfl, -⟩ := (hr _ _ H).shape
  have hce : cerrF l = 0 := by
    unfold cerrF
    unfold terrF at hok
    by_cases hmy : mayF l = true
    · rw [if_pos hmy, if_pos hok3]
    · rw [if_neg hmy] at hok; omega
  have hcr : cresF l = codesF l := by unfold cresF; rw [if_pos hce]
  have hc := rcodes_any (hr _ _ H) hm2
  rw [hce, hcr, codesF_length, hml] at hc
  have HC := Lib.hid hc
  have HFN := Lib.hid (fun (w1 : World) (ov : Value) (h : Own w0 w1 (RRdr rg s n :: slc 3 1 ov m (nums (codesF l)) :: ps)) => find_any (v := .slice va m vc) (u := ov) hok2 hml hm2 hs hn (fun k wz h => ⟨hr _ _ h.swap.drop, h.swap.rd⟩) h)
  generalize (decF l ((textBits s).drop n)).1 = x1 at *
  generalize (decF l ((textBits s).drop n)).2.1 = x2 at *
  generalize (decF l ((textBits s).drop n)).2.2 = x3 at *
  clear hc hr hok hok1 hok2 hok3 hml
  go_enter Try.func25, Try.ntmps25
  go_wp2_with fail
  refine HC.out.mono ?_
  rintro e w1 ⟨_, rfl, ov, rfl, H1⟩
  have H := (H.join H1).swap
  obtain ⟨p1, q1, rfl, -⟩ := H.swap.rd.shape
  clear H1
  go_wp2_with fail
  refine (HFN.out _ _ H).mono ?_
  rintro e w2 ⟨_, rfl, rfl, H2⟩
  go_wp2_with fail
  go_ret2
  exact ⟨_, rfl, rfl, H2.swap.drop⟩
end Go.Proofs.Ytfeamlbkogigkaa
/- bits.New. -/
namespace Go.Proofs.Ytfeamlbkogigkaa
open Go.RowKit

set_option maxHeartbeats 400000 in
theorem bnew_any {w0 w : World} {ps : List Piece} (s : ByteArray) (H : Own w0 w ps) :
    Calls Try.prog 23 #[.string s] w (Ret fun v w' => ∃ g, v = .pointer (some ⟨g, 0, none⟩) ∧ Own w0 w' (Rdr g s 0 :: ps)) := by
  go_enter Try.func23, Try.ntmps23
  go_wp2
  go_ret
  exact ⟨_, rfl, _, rfl, H.alloc _⟩
end Go.Proofs.Ytfeamlbkogigkaa
/- huff: the walk of the law on decoding. -/
namespace Go.Proofs.Ytfeamlbkogigkaa
open Go.RowKit

set_option maxRecDepth 100000 in
set_option maxHeartbeats 6400000 in
theorem lawdecodes_any {w : World} {v : Value} {n : Nat} {F0 : List Int} (s0 : ByteArray) (hr0 : Rd w 1 v n (nums F0)) :
    Calls Try.prog 8 #[v, .string s0] w (Ret fun r w' => r = .bool true ∧ Own w w' []) := by
  have hs := some_any (w := w) hr0
  obtain ⟨F, hF⟩ : ∃ F, Hid (F0.take 330 = F) := ⟨_, rfl⟩
  obtain ⟨m, hm⟩ : ∃ m, Hid (F.length = m) := ⟨_, rfl⟩
  have hm330 : m ≤ 330 := by rw [← hm.out, ← hF.out, List.length_take]; omega
  rw [hF.out, hm.out] at hs
  have HS := Lib.hid hs
  obtain ⟨va, vc, rfl, -⟩ := hr0.shape
  clear hr0 hs
  go_enter Try.func8, Try.ntmps8
  go_wp2_with fail
  refine HS.out.mono ?_
  rintro e w1 ⟨r, rfl, hr, H⟩
  obtain ⟨a, c, rfl, hc1, hc2⟩ := hr.shape
  have HR := Lib.hid hr
  clear hr HS
  go_upto_if 18 with (fail)
  go_cut [1] (fun s1 wx => ∃ t : ByteArray, s1 = .string t ∧ t.size ≤ 200 ∧ Own w wx [])
  case first =>
    by_cases h200 : 200 < s0.size
    · have hI : (200 : Int) < (s0.size : Int) := by omega
      go_wp2_with fail
      go_meet
      exact ⟨_, rfl, by simp; omega, H⟩
    · have hI : ¬ (200 : Int) < (s0.size : Int) := by omega
      go_wp2_with fail
      go_meet
      exact ⟨s0, rfl, by omega, H⟩
  case rest =>
    clear H
    obtain ⟨t, rfl, ht, H⟩ := hcut
    obtain ⟨er, her⟩ : ∃ er, Hid (terrF F = er) := ⟨_, rfl⟩
    go_wp2_with fail
    refine (hnew_any (F := F) (HR.out.old H) (by omega)).mono ?_
    rintro e w2 ⟨_, rfl, pv, rfl, h1, h2⟩
    rw [her.out] at h1 h2 ⊢
    by_cases h0 : er = 0
    · subst h0
      obtain ⟨g, rfl, H1⟩ := h2 rfl
      have H : Own w w2 [Tbl g F] := H.join H1
      clear h1 h2 H1
      obtain ⟨ok1, ok2, ok3⟩ := table_ok her.out
      have OK2 := Lib.hid ok2
      have OK3 := Lib.hid ok3
      clear ok1 ok2 ok3
      go_wp2_with fail
      refine (bnew_any t H).mono ?_
      rintro e w3 ⟨_, rfl, rg, rfl, H1⟩
      go_upto_region 8 with (fail)
      have H : Own w (w3.alloc (.cells #[.string t, .int .i64 0] 47)) (Rdr rg t 0 :: Tbl g F :: RRdr w3.heap.size t 0 :: []) := by
        have h := H1.alloc (.cells #[.string t, .int .i64 0] 47)
        exact (h.front 2 rfl).front 2 rfl
      generalize w3.alloc (.cells #[.string t, .int .i64 0] 47) = wa at *
      generalize w3.heap.size = qg at *
      clear H1
      go_wp2_with fail
      go_loopw [9] (fun s9 wx => ∃ i k : Nat, s9 = .int .i64 i ∧ i ≤ 40 ∧ k ≤ 8 * t.size ∧ Own w wx (Rdr rg t k :: Tbl g F :: RRdr qg t k :: [])) (fun s9 _ => 40 - (intOf s9).toNat)
      case atStart => exact ⟨0, 0, by go_num, by omega, by omega, H⟩
      case round =>
        clear H
        obtain ⟨i, k, rfl, hi, hk, H⟩ := hrel
        by_cases hlt : i < 40
        · have hI : (i : Int) < 40 := by omega
          have hu := decN_used (l := F) 15 0 0 ((textBits t).drop k)
          rw [List.length_drop, textBits_length] at hu
          have hk2 : k + (decF F ((textBits t).drop k)).2.2 ≤ 8 * t.size := by unfold decF; omega
          have HDEC := Lib.hid (decode_any OK2.out OK3.out (by have := hm.out; omega) (by omega) hk H)
          have HRD := Lib.hid (fun (w1 : World) (h : Own w w1 (RRdr qg t k :: Rdr rg t (k + (decF F ((textBits t).drop k)).2.2) :: Tbl g F :: [])) => rdecode_any her.out (by omega) (by omega) hk (fun _ _ h => HR.out.old h) h)
          generalize (decF F ((textBits t).drop k)).1 = x1 at *
          generalize (decF F ((textBits t).drop k)).2.1 = x2 at *
          generalize k + (decF F ((textBits t).drop k)).2.2 = k2 at *
          clear hu
          go_wp2_with fail
          refine HDEC.out.mono ?_
          rintro e w4 ⟨_, rfl, rfl, H1⟩
          clear H
          go_wp2_with fail
          refine (HRD.out _ (H1.front 2 rfl)).mono ?_
          rintro e w5 ⟨_, rfl, rfl, H⟩
          clear H1
          have H : Own w w5 (Rdr rg t k2 :: Tbl g F :: RRdr qg t k2 :: []) := (H.front 2 rfl).front 2 rfl
          clear HDEC HRD
          go_wp2_with fail
          refine (rdleft_any H (by omega) (by omega)).mono ?_
          rintro e w6 ⟨rfl, H1⟩
          clear H
          go_wp2_with fail
          refine (rleft_any (H1.front 2 rfl) (by omega) (by omega)).mono ?_
          rintro e w7 ⟨rfl, H⟩
          clear H1
          have H : Own w w7 (Rdr rg t k2 :: Tbl g F :: RRdr qg t k2 :: []) := (H.front 2 rfl).front 2 rfl
          obtain ⟨lf, hlf⟩ : ∃ lf : Int, Hid (8 * (t.size : Int) - k2 = lf) := ⟨_, rfl⟩
          rw [hlf.out]
          by_cases hx2 : x2 = 0
          · subst hx2
            go_wp2_with fail
            go_roundw
            case rel => exact ⟨i + 1, k2, by go_num, by omega, hk2, H⟩
            case measure => simp [intOf]; omega
          · have hne : (x2 == 0) = false := by simpa using hx2
            go_wp2_with fail
            refine (awake_any _).mono ?_
            rintro e w8 ⟨_, rfl, rfl, H1⟩
            have H := H.join H1
            go_wp2_with fail
            go_ret
            exact ⟨_, rfl, rfl, H.bare⟩
        · have hI : ¬ (i : Int) < 40 := by omega
          go_wp2_with fail
          refine (awake_any _).mono ?_
          rintro e w8 ⟨_, rfl, rfl, H1⟩
          have H := H.join H1
          go_wp2_with fail
          go_ret
          exact ⟨_, rfl, rfl, H.bare⟩
    · obtain ⟨rfl, H1⟩ := h1 h0
      have H := H.join H1
      have hne : (er == 0) = false := by simpa using h0
      clear h1 h2 H1
      go_wp2_with fail
      refine (awake_any _).mono ?_
      rintro e w6 ⟨_, rfl, rfl, H1⟩
      have H := H.join H1
      go_wp2_with fail
      go_ret
      exact ⟨_, rfl, rfl, H.bare⟩
end Go.Proofs.Ytfeamlbkogigkaa
/- huff: what is written by codes is read, plainly. No program in sight. -/
namespace Go.Proofs.Ytfeamlbkogigkaa

/-- A symbol's code, as bits. -/
def cbits (l : List Int) (s : Nat) : List Bool := (bitsOf (codeF l s) (l.getD s 0).toNat).reverse
theorem cbits_length (l : List Int) (s : Nat) : (cbits l s).length = (l.getD s 0).toNat := by unfold cbits; rw [List.length_reverse, bitsOf_length]
theorem cbits_get {l : List Int} {s i : Nat} (h : i < (l.getD s 0).toNat) : (cbits l s)[i]? = some (bitOf (codeF l s) ((l.getD s 0).toNat - 1 - i)) := by
  unfold cbits
  rw [List.getElem?_reverse (by rw [bitsOf_length]; exact h), bitsOf_length]
  unfold bitsOf
  rw [List.getElem?_map, List.getElem?_range (by omega)]
  rfl
theorem mem_getD2 {F : List Int} {i : Nat} (h : i < F.length) : F.getD i 0 ∈ F := by
  rw [List.getD_eq_getElem?_getD, List.getElem?_eq_getElem h]
  exact List.getElem_mem _
section
variable {l : List Int}
/-- Of a code each bit but the last leads on, and the last to its symbol. -/
theorem dec_code {s : Nat} (hs : s < l.length) (h0 : 0 < l.getD s 0) (h15 : l.getD s 0 ≤ 15) (rest : List Bool) :
    ∀ d i, i + d = (l.getD s 0).toNat → 0 < d → decN l (15 - i) i (codeF l s / 2 ^ d) ((cbits l s).drop i ++ rest) = ((s : Int), 0, d) := by
  obtain ⟨m, hm⟩ : ∃ m : Nat, l.getD s 0 = m := ⟨(l.getD s 0).toNat, by omega⟩
  have hmt : (l.getD s 0).toNat = m := by omega
  rw [hmt]
  have hlo : lowF l m ≤ codeF l s := by unfold codeF; rw [if_pos h0, hmt]; omega
  intro d
  induction d with
  | zero => intro i _ h; omega
  | succ d ih =>
    intro i hi _
    have hib : i < (cbits l s).length := by rw [cbits_length, hmt]; omega
    have hdrop : (cbits l s).drop i = bitOf (codeF l s) d :: (cbits l s).drop (i + 1) := by
      have h1 := cbits_get (l := l) (s := s) (i := i) (by omega)
      rw [hmt, show m - 1 - i = d by omega] at h1
      obtain ⟨h2, h3⟩ := List.getElem?_eq_some_iff.1 h1
      rw [List.drop_eq_getElem_cons h2, h3]
    have hc : 2 * (codeF l s / 2 ^ (d + 1)) + bi (bitOf (codeF l s) d) = codeF l s / 2 ^ d := by
      rw [bi_bitOf, Int.pow_succ, ← Int.ediv_ediv_of_nonneg (Int.le_of_lt (Int.pow_pos (by omega)))]
      omega
    rw [hdrop, List.cons_append, show 15 - i = (15 - (i + 1)) + 1 by omega, decN, hc]
    by_cases hd : d = 0
    · subst hd
      have e : codeF l s / 2 ^ 0 = codeF l s := by simp
      rw [e]
      have him : i + 1 = m := by omega
      have hat := (code_at (l := l) (n := i + 1) (s := s) (c := codeF l s) (by omega) (by rw [him]; exact hlo)).1 ⟨hs, by rw [hm, him], rfl⟩
      rw [hat]
    · have hfar := low_far l (i + 1) (d - 1)
      rw [show i + 1 + 1 + (d - 1) = m by omega, show d - 1 + 1 = d by omega] at hfar
      have hge : lowF l (i + 1) + cntC l (i + 1) ≤ codeF l s / 2 ^ d := by
        rw [Int.le_ediv_iff_mul_le (Int.pow_pos (by omega)), Int.mul_comm]
        omega
      have hnone : (symsL l (i + 1))[(codeF l s / 2 ^ d - lowF l (i + 1)).toNat]? = none := by
        refine List.getElem?_eq_none ?_
        rw [symsL_length]
        have : cntC l (i + 1) = cntL l (i + 1) := by unfold cntC; rw [if_neg (by omega)]
        omega
      rw [hnone, ih (i + 1) (by omega) (by omega)]
theorem dec_one {s : Nat} (hall : ∀ x ∈ l, 0 ≤ x ∧ x ≤ 15) (hw : sumF wtF l ≤ 2 ^ 15) (hs : s < l.length) (h0 : 0 < l.getD s 0) (rest : List Bool) : decF l (cbits l s ++ rest) = ((s : Int), 0, (l.getD s 0).toNat) := by
  have h15 := (hall _ (mem_getD2 hs)).2
  have h := dec_code hs h0 h15 rest (l.getD s 0).toNat 0 (by omega) (by omega)
  have hf := code_fits hall hw hs h0
  have e : codeF l s / 2 ^ (l.getD s 0).toNat = 0 := Int.ediv_eq_zero_of_lt (code_nonneg s) hf
  rw [e] at h
  exact h
/-- Of frequencies' lengths there are codes, and a table. -/
theorem LenOk.cod {F R : List Int} {L : Int} (h : LenOk F L R) : cerrF R = 0 ∧ terrF R = 0 ∧ cresF R = codesF R := by
  have hmy : mayF R = true := by
    unfold mayF
    rw [h.len, decide_eq_true h.few, Bool.true_and, List.all_eq_true]
    intro x hx
    have := h.all x hx
    simp [okLen]; omega
  have hus : (usedF R).length = (usedF F).length := by
    have : ∀ k, k ≤ F.length → usedN R k = usedN F k := by
      intro k
      induction k with
      | zero => intro _; rfl
      | succ k ih =>
        intro hk
        rw [usedN, usedN, ih (by omega)]
        have h1 := h.get k (by omega)
        have h2 := getD_nonneg h.nn k
        by_cases hp : 0 < F.getD k 0
        · rw [if_pos hp, if_pos (by omega)]
        · rw [if_neg hp, if_neg (by omega)]
    unfold usedF
    rw [h.len, this _ (Nat.le_refl _)]
  have hw := h.weight
  have hc : cerrF R = 0 := by
    unfold cerrF
    rw [if_pos hmy, if_pos]
    rw [hw]
    split <;> omega
  refine ⟨hc, ?_, by unfold cresF; rw [if_pos hc]⟩
  unfold terrF
  rw [if_pos hmy, hus, if_pos]
  rw [hw]
  by_cases h2 : (usedF F).length < 2
  · rw [if_pos h2]; omega
  · rw [if_neg h2]; omega
/-- All that is written. -/
def allBits (l : List Int) (P : List Nat) : List Bool := P.flatMap (cbits l)
theorem allBits_snoc (P : List Nat) (s : Nat) : allBits l (P ++ [s]) = allBits l P ++ cbits l s := by simp [allBits]
theorem allBits_length (hall : ∀ x ∈ l, 0 ≤ x ∧ x ≤ 15) (P : List Nat) (hP : ∀ s ∈ P, s < l.length) : (allBits l P).length ≤ 15 * P.length := by
  induction P with
  | nil => simp [allBits]
  | cons s t ih =>
    have h1 := hall _ (mem_getD2 (hP s (by simp)))
    have h2 := ih fun x hx => hP x (by simp [hx])
    have e : allBits l (s :: t) = cbits l s ++ allBits l t := rfl
    rw [e, List.length_append, cbits_length, List.length_cons]
    omega
theorem allBits_drop (P : List Nat) (k s : Nat) (h : P[k]? = some s) : (allBits l P).drop (allBits l (P.take k)).length = cbits l s ++ allBits l (P.drop (k + 1)) ∧ allBits l (P.take (k + 1)) = allBits l (P.take k) ++ cbits l s := by
  obtain ⟨hk, hs⟩ := List.getElem?_eq_some_iff.1 h
  have e : P = P.take k ++ s :: P.drop (k + 1) := by
    have := List.drop_eq_getElem_cons hk
    rw [hs] at this
    rw [← this, List.take_append_drop]
  constructor
  · conv => lhs; rw [e]
    unfold allBits
    rw [List.flatMap_append, List.flatMap_cons]
    have hl : ((P.take k).flatMap (cbits l)).length = ((P.take k).flatMap (cbits l)).length := rfl
    have h2 : (List.take k (List.take k P ++ s :: List.drop (k + 1) P)) = P.take k := by
      rw [← e]
    rw [h2, List.drop_left]
  · rw [List.take_add_one, h]
    exact allBits_snoc _ _
end
end Go.Proofs.Ytfeamlbkogigkaa
/- Bits: Writer.Code. -/
namespace Go.Proofs.Ytfeamlbkogigkaa
open Go.RowKit

set_option maxHeartbeats 400000 in
theorem code_any {w0 w : World} {ps : List Piece} {g : Nat} {bs : List Bool} (v n : Int) (hv : -9223372036854775808 ≤ v ∧ v ≤ 9223372036854775807) (hn : -9223372036854775808 ≤ n ∧ n ≤ 9223372036854775807) (H : Own w0 w (Wtr g bs :: ps)) (hl : bs.length ≤ 35184372088000) :
    Calls Try.prog 28 #[.pointer (some ⟨g, 0, none⟩), .int .i64 v, .int .i64 n] w (Ret fun _ w' => Own w0 w' (Wtr g (bs ++ (bitsOf v (cut n)).reverse) :: ps)) := by
  obtain ⟨hv1, hv2⟩ := hv
  obtain ⟨hn1, hn2⟩ := hn
  obtain ⟨m, hm, hm62⟩ : ∃ m : Nat, Hid (cut n = m) ∧ m ≤ 62 := ⟨_, Lib.hid rfl, by unfold cut; omega⟩
  have hmn : Hid (min (max n 0) 62 = (m : Int)) := Lib.hid (by rw [← hm.out]; unfold cut; omega)
  go_enter Try.func28, Try.ntmps28
  go_upto_region 1 with (fail)
  go_cut [6] (fun s6 wx => wx = w ∧ s6 = .int .i64 ((m : Int) - 1))
  case first =>
    go_wp2
    all_goals go_meet
    all_goals exact ⟨rfl, val_int (by have := hmn.out; omega)⟩
  case rest =>
    obtain ⟨rfl, rfl⟩ := hcut
    go_wp2_with fail
    go_loopw [6] (fun i wx => ∃ k : Nat, ∃ d : Int, k ≤ m ∧ i = .int .i64 d ∧ Hid (d = (m : Int) - 1 - k) ∧ Own w0 wx (Wtr g (bs ++ (bitsOf v m).reverse.take k) :: ps)) (fun i _ => (intOf i + 1).toNat)
    case atStart => exact ⟨0, _, Nat.zero_le _, rfl, Lib.hid (by omega), by simpa using H⟩
    case round =>
      clear H
      obtain ⟨k, d, hk, rfl, hd, H⟩ := hrel
      by_cases hlt : k < m
      · obtain ⟨j, hj⟩ : ∃ j, Hid (m - 1 - k = j) := ⟨_, rfl⟩
        obtain rfl : d = (j : Int) := by have := hd.out; have := hj.out; omega
        have hj62 : j < 62 := by have := hj.out; omega
        obtain ⟨b, hbb⟩ : ∃ b, Hid (bitOf v j = b) := ⟨_, rfl⟩
        have hbit : bits .and .i64 (v / 2 ^ j) 1 = bi b := by rw [i64_and1, ← hbb.out, bi_bitOf]
        go_wp2_with fail
        refine (bit_any b H (by simp [bitsOf_length]; omega)).mono ?_
        rintro e w2 ⟨_, rfl, h2⟩
        replace H : Own w0 w2 (Wtr g (bs ++ (bitsOf v m).reverse.take (k + 1)) :: ps) := by rw [codeBits_take v m k hlt, ← List.append_assoc, hj.out, hbb.out]; exact h2
        clear h2
        go_wp2
        go_roundw
        case rel => exact ⟨k + 1, _, by omega, rfl, Lib.hid (by have := hd.out; omega), H⟩
        case measure => simp [intOf]
      · have hd0 : d < 0 := by have := hd.out; omega
        obtain rfl : k = m := by omega
        rw [List.take_of_length_le (by simp [bitsOf_length])] at H
        go_wp2
        go_end0
        rw [hm.out]
        exact ⟨_, rfl, H⟩
end Go.Proofs.Ytfeamlbkogigkaa
/- Bits: Writer.Bytes. -/
namespace Go.Proofs.Ytfeamlbkogigkaa
open Go.RowKit

theorem bytes_any {w0 w : World} {ps : List Piece} {g : Nat} {bs : List Bool} (H : Own w0 w (Wtr g bs :: ps)) :
    Calls Try.prog 29 #[.pointer (some ⟨g, 0, none⟩)] w fun e w' => e = .returned (.string (textOf bs)) ∧ w' = w := by
  obtain ⟨a, cp, hc1, hc2, H⟩ := H.wtr
  have c0 := H.cells
  have hs := run_string_sep (P := Try.prog) 54 9 Try.underlying54 Try.underlying5 Try.underlying9 (H.front 1 rfl).rd
  rw [show strOfNums (bytesOf bs) = textOf bs from rfl] at hs
  obtain ⟨n, hn⟩ : ∃ n, n = nbytes bs.length := ⟨_, rfl⟩
  simp only [← hn] at hs c0
  clear hn
  go_enter Try.func29, Try.ntmps29
  go_wp2
  go_ret
  exact ⟨rfl, rfl⟩
end Go.Proofs.Ytfeamlbkogigkaa
/- Bits: a new writer. -/
namespace Go.Proofs.Ytfeamlbkogigkaa
open Go.RowKit

theorem alloc_heap_size' (w : World) (o : Obj) : (w.alloc o).heap.size = w.heap.size + 1 := Array.size_push ..
/-- A new writer. -/
theorem Own.newWtr {w0 w : World} {ps : List Piece} (H : Own w0 w ps) : Own w0 (w.alloc (.cells #[.slice none 0 0, .int .i64 0] 56)) (Wtr w.heap.size [] :: ps) := by
  have h := (H.alloc (.cells #[.slice none 0 0, .int .i64 0] 56)).nil 5 1
  exact Own.unwtr (n := 0) h.swap rfl rfl rfl
end Go.Proofs.Ytfeamlbkogigkaa
/- huff: the walk of the law on what is written and read. -/
namespace Go.Proofs.Ytfeamlbkogigkaa
open Go.RowKit

theorem cut_small {x : Int} (h0 : 0 ≤ x) (h1 : x ≤ 15) : cut x = x.toNat := by unfold cut; omega

set_option maxRecDepth 100000 in
set_option maxHeartbeats 6400000 in
theorem lawback_any {w : World} {v u : Value} {n n2 : Nat} {F0 Y : List Int} {L : Int} (hr0 : Rd w 1 v n (nums F0)) (hu0 : Rd w 1 u n2 (nums Y)) :
    Calls Try.prog 9 #[v, .int .i64 L, u] w (Ret fun r w' => r = .bool true ∧ Own w w' []) := by
  have hs := some_any (w := w) hr0
  obtain ⟨F, hF⟩ : ∃ F, Hid (F0.take 330 = F) := ⟨_, rfl⟩
  obtain ⟨m, hm⟩ : ∃ m, Hid (F.length = m) := ⟨_, rfl⟩
  have hm330 : m ≤ 330 := by rw [← hm.out, ← hF.out, List.length_take]; omega
  rw [hF.out, hm.out] at hs
  have HS := Lib.hid hs
  have HU := Lib.hid hu0
  obtain ⟨va, vc, rfl, -⟩ := hr0.shape
  obtain ⟨ua, uc, rfl, hu1, hu2⟩ := hu0.shape
  clear hr0 hs hu0
  go_enter Try.func9, Try.ntmps9
  go_wp2_with fail
  refine HS.out.mono ?_
  rintro e w1 ⟨r, rfl, hr, H⟩
  obtain ⟨a, c, rfl, hc1, hc2⟩ := hr.shape
  have HR := Lib.hid hr
  clear hr HS
  obtain ⟨er, her⟩ : ∃ er, Hid (errF F L = er) := ⟨_, rfl⟩
  obtain ⟨R, hRes⟩ : ∃ R, Hid (resF F L = R) := ⟨_, rfl⟩
  go_wp2_with fail
  refine (lengths_any (F := F) (L := L) (HR.out.old H) (by omega)).mono ?_
  rintro e w2 ⟨_, rfl, o, rfl, H1⟩
  rw [her.out]
  rw [hRes.out] at H1
  obtain ⟨RL, hRL⟩ : ∃ RL, Hid (R.length = RL) := ⟨_, rfl⟩
  rw [hRL.out] at H1
  have H : Own w w2 [slc 3 1 o RL (nums R)] := H.join H1
  clear H1
  obtain ⟨p1, q1, rfl, hq1, hq2⟩ := H.rd.shape
  by_cases h0 : er = 0
  · subst h0
    have hok := len_ok her.out
    rw [hRes.out] at hok
    have hRl : RL = m := by rw [← hRL.out, hok.len]; exact hm.out
    subst hRl
    obtain ⟨k1, k2, k3⟩ := hok.cod
    have HOK := Lib.hid hok
    have K2 := Lib.hid k2
    have hcod := codes_any (F := R) H.rd (by omega)
    rw [k1, k3, codesF_length, hRL.out] at hcod
    have HCOD := Lib.hid hcod
    clear hok k1 k2 k3 hcod
    obtain ⟨t1, t2, t3⟩ := table_ok K2.out
    have ALL := Lib.hid t2
    have WT := Lib.hid t3
    clear t1 t2 t3
    go_wp2_with fail
    refine HCOD.out.mono ?_
    rintro e w3 ⟨_, rfl, ov, rfl, H1⟩
    have H := H.join H1
    clear H1 HCOD
    have H : Own w w3 (slc 3 1 ov RL (nums (codesF R)) :: slc 3 1 (.slice p1 RL q1) RL (nums R) :: []) := H
    obtain ⟨p2, q2, rfl, hq3, hq4⟩ := H.rd.shape
    go_wp2_with fail
    refine (hnew_any (F := R) (H.front 1 rfl).rd (by omega)).mono ?_
    rintro e w4 ⟨_, rfl, pv, rfl, -, h2⟩
    rw [K2.out]
    obtain ⟨g, rfl, H1⟩ := h2 K2.out
    have H : Own w w4 (Tbl g R :: slc 3 1 (.slice p2 RL q2) RL (nums (codesF R)) :: slc 3 1 (.slice p1 RL q1) RL (nums R) :: []) := H.join H1
    clear H1 h2
    go_upto_region 11 with (fail)
    have H : Own w (w4.alloc (.cells #[.slice none 0 0, .int .i64 0] 56)) (Wtr w4.heap.size [] :: Tbl g R :: slc 3 1 (.slice p2 RL q2) RL (nums (codesF R)) :: slc 3 1 (.slice p1 RL q1) RL (nums R) :: []) := H.newWtr
    generalize w4.alloc (.cells #[.slice none 0 0, .int .i64 0] 56) = wa at *
    generalize w4.heap.size = wg at *
    have H := (H.nil 3 1).swap
    go_upto_block 0 with (fail)
    go_cut [14] (fun s14 wx => ∃ P : List Nat, P.length ≤ 100 ∧ Hid (∀ s ∈ P, s < R.length ∧ 0 < R.getD s 0) ∧ Own w wx (Wtr wg (allBits R P) :: slc 3 1 s14 P.length (nums (natI P)) :: Tbl g R :: slc 3 1 (.slice p2 RL q2) RL (nums (codesF R)) :: slc 3 1 (.slice p1 RL q1) RL (nums R) :: []))
    case first =>
      go_wp2_with fail
      go_loopw [14, 15] (fun s14 s15 wx => ∃ (i : Nat) (P : List Nat), s15 = .int .i64 i ∧ i ≤ n2 ∧ i ≤ 100 ∧ P.length ≤ i ∧ Hid (∀ s ∈ P, s < R.length ∧ 0 < R.getD s 0) ∧ Own w wx (Wtr wg (allBits R P) :: slc 3 1 s14 P.length (nums (natI P)) :: Tbl g R :: slc 3 1 (.slice p2 RL q2) RL (nums (codesF R)) :: slc 3 1 (.slice p1 RL q1) RL (nums R) :: [])) (fun _ s15 _ => n2 - (intOf s15).toNat)
      case atStart => exact ⟨0, [], by go_num, by omega, by omega, by simp, Lib.hid (fun s h => by cases h), by simpa [allBits, natI, nums] using H⟩
      case round =>
        clear H
        obtain ⟨i, P, rfl, hi, hi2, hPi, hP, H⟩ := hrel
        by_cases hin : i < n2
        · have hinI : (i : Int) < (n2 : Int) := by omega
          by_cases hi3 : i < 100
          · have hi3I : (i : Int) < 100 := by omega
            obtain ⟨b1, o1, rfl, c0⟩ := rd_at HU.out H hin
            generalize Y.getD i 0 = x at *
            by_cases hx0 : x < 0
            · go_wp2_with fail
              go_roundw
              case rel => exact ⟨i + 1, P, by go_num, by omega, by omega, by omega, hP, H⟩
              case measure => simp [intOf]; omega
            · obtain ⟨z, rfl⟩ : ∃ z : Nat, x = z := ⟨x.toNat, by omega⟩
              have hz0 : (0 : Int) ≤ (z : Int) := by omega
              by_cases hzl : z < RL
              · have hzI : (z : Int) < (RL : Int) := by omega
                obtain ⟨b2, o2, rfl, c1⟩ := rd_at (H.front 4 rfl).rd (Own.start wr) hzl
                obtain ⟨b3, o3, rfl, -⟩ := rd_at (H.front 3 rfl).rd (Own.start wr) hzl
                have hzR : z < R.length := by have := hRL.out; omega
                have g : ∀ (v14 : Value) (ps' : List Piece) (w' : World), Own w w' (Wtr wg (allBits R P) :: slc 3 1 v14 P.length (nums (natI P)) :: Tbl g R :: slc 3 1 (.slice (some ⟨b3, o3, none⟩) RL q2) RL (nums (codesF R)) :: slc 3 1 (.slice (some ⟨b2, o2, none⟩) RL q1) RL (nums R) :: ps') → w'.cell? ⟨b2, o2 + z, none⟩ = some (.int .i64 (R.getD z 0)) ∧ w'.cell? ⟨b3, o3 + z, none⟩ = some (.int .i64 (codeF R z)) := fun v14 ps' w' h => by
                  obtain ⟨_, _, he, h1⟩ := rd_at (h.front 4 rfl).rd (Own.start w') hzl
                  obtain ⟨_, _, he2, h2⟩ := rd_at (h.front 3 rfl).rd (Own.start w') hzl
                  cases he; cases he2
                  rw [codesF_get hzR] at h2
                  exact ⟨h1, h2⟩
                have G := Lib.hid g
                have hb := ALL.out _ (mem_getD2 hzR)
                have hcb := code_nonneg (l := R) z
                have hcw : codeF R z ≤ 32768 := by
                  by_cases hp : 0 < R.getD z 0
                  · have h1 := code_fits ALL.out WT.out hzR hp
                    obtain ⟨p, hp2, h3, h4⟩ := pow_pos_nat (R.getD z 0).toNat (by omega)
                    rw [hp2] at h1
                    omega
                  · unfold codeF; rw [if_neg hp]; omega
                have hsn := allBits_snoc (l := R) P z
                have hpos : Hid (0 < R.getD z 0 → ∀ s ∈ P ++ [z], s < R.length ∧ 0 < R.getD s 0) := Lib.hid (fun h s hs => by
                  rcases List.mem_append.1 hs with h1 | h1
                  · exact hP.out s h1
                  · have : s = z := by simpa using h1
                    subst this; exact ⟨hzR, h⟩)
                have hbl := allBits_length ALL.out P (fun s h => (hP.out s h).1)
                unfold cbits at hsn
                clear g
                generalize hyE : R.getD z 0 = y at *
                generalize codeF R z = cz at *
                have HSN := Lib.hid hsn
                clear hsn hyE
                by_cases hy : 0 < y
                · have hcode := fun (w' : World) (v14 : Value) (h : Own w w' (Wtr wg (allBits R P) :: slc 3 1 v14 P.length (nums (natI P)) :: Tbl g R :: slc 3 1 (.slice (some ⟨b3, o3, none⟩) RL q2) RL (nums (codesF R)) :: slc 3 1 (.slice (some ⟨b2, o2, none⟩) RL q1) RL (nums R) :: [])) => code_any cz y (by omega) (by omega) h (by omega)
                  rw [cut_small hb.1 hb.2, ← HSN.out] at hcode
                  have HCODE := Lib.hid hcode
                  have hP2 := Lib.hid (hpos.out hy)
                  obtain ⟨a14, c14, rfl, hf1, hf2⟩ := (H.front 1 rfl).rd.shape
                  clear hcode hpos hbl
                  go_upto_region 16 with (fail)
                  clear c0 c1
                  refine wp_region_calm (fun w1 => Own w w1 (Wtr wg (allBits R P) :: slc 3 1 (.slice a14 P.length c14) P.length (nums (natI P)) :: Tbl g R :: slc 3 1 (.slice (some ⟨b3, o3, none⟩) RL q2) RL (nums (codesF R)) :: slc 3 1 (.slice (some ⟨b2, o2, none⟩) RL q1) RL (nums R) :: [])) 8 (by kernel_rfl) (by kernel_rfl) H.drew ?_
                  simp only [List.take_succ_cons, List.take_zero, List.drop_succ_cons, List.drop_zero]
                  repeat
                    first
                    | (refine calm_value (v := ?_) (by decide) rfl (fun σ w1 hS => ?_) ?_
                       rotate_left
                       · obtain ⟨c0, c1⟩ := G.out _ _ _ hS
                         first | (go_simp; rfl) | rfl
                       simp only [Act.put, List.setIfInBounds_toArray, List.set_cons_zero, List.set_cons_succ])
                    | (refine calm_skip (by decide) rfl ?_
                       simp only [Act.put, List.setIfInBounds_toArray, List.set_cons_zero, List.set_cons_succ])
                  refine calm_nil ?_
                  intro wd HD
                  clear H
                  go_wp2_with fail
                  refine (HCODE.out _ _ HD).mono ?_
                  rintro e w7 ⟨_, rfl, H⟩
                  clear HD
                  obtain ⟨PL, hPL⟩ : ∃ PL, Hid (P.length = PL) := ⟨_, rfl⟩
                  have hPL1 : Hid ((P ++ [z]).length = PL + 1) := Lib.hid (by rw [List.length_append, hPL.out]; rfl)
                  rw [hPL.out] at H hPi ⊢
                  go_wp2_with (at_builtin; refine wpList_append_one rfl _ _ rfl Try.underlying22 intInfo rfl (by decide) rfl H.swap (news := [.int .i64 z]) rfl rfl rfl (by simp [Value.oneCell']) (by omega) (by omega) ?_; clear H; intro v' w' H; rw [natI_snoc] at H; replace H := H.swap)
                  go_roundw
                  case rel => exact ⟨i + 1, P ++ [z], by go_num, by omega, by omega, by rw [hPL1.out]; omega, hP2, by rw [hPL1.out]; exact H⟩
                  case measure => simp [intOf]; omega
                · clear hpos HSN
                  go_wp2_with fail
                  go_roundw
                  case rel => exact ⟨i + 1, P, by go_num, by omega, by omega, by omega, hP, H⟩
                  case measure => simp [intOf]; omega
              · have hzI : ¬ (z : Int) < (RL : Int) := by omega
                go_wp2_with fail
                go_roundw
                case rel => exact ⟨i + 1, P, by go_num, by omega, by omega, by omega, hP, H⟩
                case measure => simp [intOf]; omega
          · have hi3I : ¬ (i : Int) < 100 := by omega
            go_wp2_with fail
            go_meet
            exact ⟨P, by omega, hP, H⟩
        · have hinI : ¬ (i : Int) < (n2 : Int) := by omega
          go_wp2_with fail
          go_meet
          exact ⟨P, by omega, hP, H⟩
    case rest =>
      clear H
      obtain ⟨P, hPl, hP, H⟩ := hcut
      obtain ⟨p3, q3, rfl, hq5, hq6⟩ := (H.front 1 rfl).rd.shape
      have hbl := allBits_length ALL.out P (fun s h => (hP.out s h).1)
      obtain ⟨bs, hbs⟩ : ∃ bs, Hid (allBits R P = bs) := ⟨_, rfl⟩
      rw [hbs.out] at H hbl
      have htx := textBits_textOf bs
      have hts := textOf_size bs
      have hnb : 8 * nbytes bs.length < bs.length + 8 ∧ bs.length ≤ 8 * nbytes bs.length := by unfold nbytes; omega
      obtain ⟨t, ht⟩ : ∃ t, Hid (textOf bs = t) := ⟨_, rfl⟩
      obtain ⟨PL, hPL⟩ : ∃ PL, Hid (P.length = PL) := ⟨_, rfl⟩
      rw [ht.out] at htx hts
      rw [hPL.out] at H hPl hbl hq5 ⊢
      have HTX := Lib.hid htx
      clear htx
      go_wp2_with fail
      refine (bytes_any H).mono ?_
      rintro e w5 ⟨rfl, rfl⟩
      rw [ht.out]
      go_wp2_with fail
      refine (bnew_any t H).mono ?_
      rintro e w6 ⟨_, rfl, rg, rfl, H1⟩
      clear H
      have H : Own w w6 (Rdr rg t 0 :: Tbl g R :: slc 3 1 (.slice p3 PL q3) PL (nums (natI P)) :: []) := ((((((H1.front 3 rfl).front 1 rfl).front 5 rfl).front 5 rfl).front 4 rfl).drop.drop.drop)
      clear H1
      go_wp2_with fail
      go_loopw [18] (fun s18 wx => ∃ k : Nat, s18 = .int .i64 k ∧ k ≤ PL ∧ Own w wx (Rdr rg t (allBits R (P.take k)).length :: Tbl g R :: slc 3 1 (.slice p3 PL q3) PL (nums (natI P)) :: [])) (fun s18 _ => PL - (intOf s18).toNat)
      case atStart => exact ⟨0, by go_num, by omega, by simpa [allBits] using H⟩
      case round =>
        clear H
        obtain ⟨k, rfl, hk, H⟩ := hrel
        have hkl : (allBits R (P.take k)).length ≤ bs.length := by
          rw [← hbs.out]
          conv => rhs; rw [← List.take_append_drop k P]
          unfold allBits
          rw [List.flatMap_append, List.length_append]
          omega
        by_cases hlt : k < PL
        · have hI : (k : Int) < (PL : Int) := by omega
          obtain ⟨sy, hsy⟩ := get_of_lt (l := P) (k := k) (by have := hPL.out; omega)
          obtain ⟨hd1, hd2⟩ := allBits_drop (l := R) P k sy hsy
          obtain ⟨hs1, hs2⟩ := hP.out sy (List.mem_of_getElem? hsy)
          rw [hbs.out] at hd1
          have hdr : (textBits t).drop (allBits R (P.take k)).length = cbits R sy ++ (allBits R (P.drop (k + 1)) ++ List.replicate (padN bs.length) false) := by
            rw [HTX.out]
            unfold aligned
            rw [List.drop_append_of_le_length hkl, hd1, List.append_assoc]
          have hdec := decode_any ALL.out WT.out (by have := hRL.out; omega) (by omega) (by omega) H
          rw [hdr, dec_one ALL.out WT.out hs1 hs2] at hdec
          have hnx : (allBits R (P.take k)).length + (R.getD sy 0).toNat = (allBits R (P.take (k + 1))).length := by rw [hd2, List.length_append, cbits_length]
          simp only at hdec
          rw [hnx] at hdec
          have HDEC := Lib.hid hdec
          have hcell : (nums (natI P))[k]? = some (.int .i64 (sy : Int)) := by
            refine nums_get ?_
            unfold natI
            rw [List.getElem?_map, hsy]
            rfl
          have HCELL := Lib.hid hcell
          obtain ⟨b3, o3, _, he, -⟩ := (H.front 2 rfl).rd.some (by rw [nums_length]; unfold natI; rw [List.length_map, hPL.out]; omega)
          cases he
          clear hdec hnx hdr hd1 hd2 hsy hcell hkl
          go_wp2_with fail
          refine HDEC.out.mono ?_
          rintro e w7 ⟨_, rfl, rfl, H2⟩
          clear H
          have c1 := (H2.front 2 rfl).rd.cell HCELL.out
          go_wp2_with fail
          go_roundw
          case rel => exact ⟨k + 1, by go_num, by omega, H2⟩
          case measure => simp [intOf]; omega
        · obtain rfl : k = PL := by omega
          have hI : ¬ (k : Int) < (k : Int) := by omega
          have hlen : (allBits R (P.take k)).length = bs.length := by rw [List.take_of_length_le (by rw [hPL.out]; exact Nat.le_refl _), hbs.out]
          rw [hlen] at H
          have hl8 : 8 * (t.size : Int) - bs.length < 8 := by omega
          have HLF := Lib.hid (rdleft_any H (by omega) (by omega))
          obtain ⟨lf, hlf⟩ : ∃ lf : Int, 8 * (t.size : Int) - bs.length = lf := ⟨_, rfl⟩
          rw [hlf] at hl8 HLF
          clear hlf hkl hlen
          go_wp2_with fail
          refine HLF.out.mono ?_
          rintro e w7 ⟨rfl, H2⟩
          go_wp2_with fail
          refine (awake_any _).mono ?_
          rintro e w8 ⟨_, rfl, rfl, H1⟩
          have H := H2.join H1
          go_wp2_with fail
          go_ret
          exact ⟨_, rfl, rfl, H.bare⟩
  · have hR0 : R = [] := by rw [← hRes.out]; unfold resF; rw [her.out, if_neg h0]
    have hne : (er == 0) = false := by simpa using h0
    have HNB : Hid ((er != 0) = true) := Lib.hid (by simpa using h0)
    clear hR0
    go_wp2_with fail
    refine (awake_any _).mono ?_
    rintro e w6 ⟨_, rfl, rfl, H1⟩
    have H := H.join H1
    go_wp2_with fail
    go_ret
    exact ⟨_, rfl, by show Value.bool (er != 0) = _; rw [HNB.out], H.bare⟩
end Go.Proofs.Ytfeamlbkogigkaa
