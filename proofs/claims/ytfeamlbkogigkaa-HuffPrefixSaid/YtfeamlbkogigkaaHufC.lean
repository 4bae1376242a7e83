/-
  huff: the walks of the sorts, of Clone, row and counted.
-/
import Derived.Test.YtfeamlbkogigkaaHufB
import Derived.Lib.BufferMore
namespace Go.Proofs.Ytfeamlbkogigkaa
open Go.RowKit

theorem intInfo : (Try.prog.info? 3).map (fun i => (i.zero, i.size, i.bytes)) = some (some (.int .i64 0), 1, 8) := by kernel_rfl
theorem coinInfo : (Try.prog.info? 65).map (fun i => (i.zero, i.size, i.bytes)) = some (some (.agg #[.int .i64 0, .bool false]), 2, 16) := by kernel_rfl
theorem rows_ie (l : List Int) : rows SI.ie l = nums l := by
  induction l with
  | nil => rfl
  | cons x t ih => rw [rows_cons, ih]; rfl

/-! ### nil -/
theorem insert_nil (cmp : Value) (w : World) : Calls Try.prog 49 #[.slice none 0 0, .int .i64 0, .int .i64 0, cmp] w (Ret fun _ w' => Own w w' []) := by
  have H := Own.start w
  go_enter Try.func49, Try.ntmps49
  go_wp2_with fail
  go_loop [8] (fun s8 => s8 = .int .i64 1) (fun _ => 0)
  case atStart => go_num
  case round =>
    obtain rfl := hrel
    go_wp2
    go_end0
    exact ⟨_, rfl, H⟩
theorem stable_nil (cmp : Value) (w : World) : Calls Try.prog 43 #[.slice none 0 0, .int .i64 0, cmp] w (Ret fun _ w' => Own w w' []) := by
  have H := Own.start w
  go_enter Try.func43, Try.ntmps43
  go_wp2_with fail
  go_loop [7, 8] (fun s7 s8 => s7 = .int .i64 0 ∧ s8 = .int .i64 20) (fun _ _ => 0)
  case atStart => exact ⟨by go_num, by go_num⟩
  case round =>
    obtain ⟨rfl, rfl⟩ := hrel
    go_wp2_with fail
    refine (insert_nil cmp _).mono ?_
    rintro e w1 ⟨_, rfl, H1⟩
    go_wp2_with fail
    go_loop [6] (fun s6 => s6 = .int .i64 20) (fun _ => 0)
    case atStart => go_num
    case round =>
      obtain rfl := hrel
      go_wp2
      go_end0
      exact ⟨_, rfl, H1⟩
theorem sortnil_any (cmp : Value) (w : World) : Calls Try.prog 32 #[.slice none 0 0, cmp] w (Ret fun _ w' => Own w w' []) := by
  go_enter Try.func32, Try.ntmps32
  go_wp2_with fail
  refine (stable_nil cmp w).mono ?_
  rintro e w1 ⟨_, rfl, H1⟩
  go_wp2
  go_end0
  exact ⟨_, rfl, H1⟩

/-! ### the sorts -/
theorem sortI_any {w0 w : World} {ps : List Piece} {g c N B n : Nat} {l F : List Int} {v : Value} (hr : Rd w0 1 v n (nums F)) (hn : n ≤ 1000000) (hok : ∀ x ∈ l, 0 ≤ x ∧ x < F.length) (hN : N = l.length) (hNb : N ≤ 1000000)
    (H : Own w0 w (slc 3 1 (.slice (some ⟨g, 0, none⟩) N c) N (rows SI.ie l) :: blk B (.cells #[v] 22) :: ps)) :
    Calls Try.prog 32 #[.slice (some ⟨g, 0, none⟩) N c, SI.cf B] w (Ret fun _ w' => Own w0 w' (slc 3 1 (.slice (some ⟨g, 0, none⟩) N c) N (rows SI.ie (sortF (frq F) l)) :: blk B (.cells #[v] 22) :: ps)) := by
  have HS := Lib.hid (SI.stable_any (byfreq_any hr hn) hok hN hNb H)
  clear hr hok H hN
  go_enter Try.func32, Try.ntmps32
  go_wp2_with fail
  refine HS.out.mono ?_
  rintro e w1 ⟨_, rfl, H1⟩
  go_wp2
  go_end0
  exact ⟨_, rfl, H1⟩
theorem sortC_any {w0 w : World} {ps : List Piece} {g c N : Nat} {l : List Coin} (hN : N = l.length) (hNb : N ≤ 1000000)
    (H : Own w0 w (slc 65 2 (.slice (some ⟨g, 0, none⟩) N c) N (rows ce l) :: ps)) :
    Calls Try.prog 46 #[.slice (some ⟨g, 0, none⟩) N c, SC.cf 0] w (Ret fun _ w' => Own w0 w' (slc 65 2 (.slice (some ⟨g, 0, none⟩) N c) N (rows ce (sortF Coin.w l)) :: ps)) := by
  have HS := Lib.hid (SC.stable_any (B := 0) (lighter_any w0 ps 0) (fun _ _ => trivial) hN hNb H)
  clear H hN
  go_enter Try.func46, Try.ntmps46
  go_wp2_with fail
  refine HS.out.mono ?_
  rintro e w1 ⟨_, rfl, H1⟩
  go_wp2
  go_end0
  exact ⟨_, rfl, H1⟩

theorem rows_ce_one (l : List Coin) : ∀ u ∈ rows ce l, u.oneCell' = true := by
  intro u hu
  obtain ⟨x, _, hx⟩ := List.mem_flatMap.1 hu
  exact SC.e_one x u hx
/-- A copy. -/
theorem clone_any {w : World} {v : Value} {n : Nat} {l : List Coin} (hr : Rd w 2 v n (rows ce l)) (hl : 0 < l.length) (hn : n ≤ 1000000) :
    Calls Try.prog 45 #[v] w (Ret fun r w' => Own w w' [slc 65 2 r n (rows ce l)]) := by
  have hlen : 0 < (rows ce l).length := by rw [rows_length ce SC.e_length]; omega
  obtain ⟨b, o, c, rfl, hc1, hc2⟩ := hr.some hlen
  have H := (Own.start w).made [] 65 2 0 (by simp) (by simp [maxLen])
  have hr2 := hr.old H
  have h1 := rows_ce_one l
  generalize rows ce l = xs at *
  have HR := Lib.hid hr2
  have H1 := Lib.hid h1
  clear hr hr2 h1 hlen
  have hnil : ∀ W, (binOp .eql 63 (.slice (some ⟨b, o, none⟩) n c) (.slice none 0 0)).run Try.prog W = .ok (.bool false) W := fun W => Lib.run_eql_slice_some_nil W _ _ _ Try.underlying63
  go_enter Try.func45, Try.ntmps45
  go_wp2_with (at_builtin; refine wpList_append_sep rfl _ _ rfl Try.underlying63 coinInfo rfl (by decide) rfl H HR.out H1.out (by omega) (by omega) ?_; clear H; intro v' w' H)
  go_ret
  refine ⟨_, rfl, ?_⟩
  simpa using H

theorem rd_shape2 {w : World} {v : Value} {n : Nat} {xs : List Value} (h : Rd w 2 v n xs) : ∃ a c, v = .slice a n c ∧ n ≤ c ∧ c ≤ 9223372036854775807 := h.shape
theorem rows_pair_cells (a b : Coin) (t : List Coin) : rows ce (a :: b :: t) = [.int .i64 a.w, .bool a.pair, .int .i64 b.w, .bool b.pair] ++ rows ce t := rfl
/-- Two elements on. -/
theorem rd_tail2 {w : World} {b o cap n : Nat} {c1 c2 : Coin} {t : List Coin} (h : Rd w 2 (.slice (some ⟨b, o, none⟩) (n + 2) cap) (n + 2) (rows ce (c1 :: c2 :: t))) :
    Rd w 2 (.slice (if cap = 2 then some ⟨b, o, none⟩ else some ⟨b, o + 4, none⟩) n (cap - 2)) n (rows ce t) := by
  have h1 := h.tail (k := 2) (by omega)
  by_cases hc : cap = 2
  · subst hc
    obtain ⟨hl, a, c, e, hle, _⟩ := h
    cases e
    have hn : n = 0 := by omega
    subst hn
    have hx : rows ce t = [] := by
      refine List.eq_nil_of_length_eq_zero ?_
      rw [rows_pair_cells, List.length_append] at hl
      simp at hl
      simpa using hl
    rw [hx]
    exact ⟨by simp, _, _, rfl, by omega, by simp [maxLen], by simp, fun ad _ j u hu => by simp at hu⟩
  · have e : (rows ce (c1 :: c2 :: t)).drop (2 * 2) = rows ce t := by rw [rows_drop ce SC.e_length]; rfl
    rw [e] at h1
    simpa [hc, Addr.add] using h1

set_option maxRecDepth 100000 in
set_option maxHeartbeats 1600000 in
/-- A row. -/
theorem row_any {w : World} {v u : Value} {n m : Nat} {base A : List Coin} (hr : Rd w 2 v n (rows ce base)) (hu : Rd w 2 u m (rows ce A)) (hl : 0 < base.length) (hn : n ≤ 1000) (hm : m ≤ 1000)
    (hA : ∀ c ∈ A, 0 ≤ c.w ∧ c.w ≤ 1000000000000000000) :
    Calls Try.prog 35 #[v, u] w (Ret fun r w' => Own w w' [slc 65 2 r (rowF base A).length (rows ce (rowF base A))]) := by
  have HC := Lib.hid (clone_any hr hl (by omega))
  have hbn : Hid (base.length = n) := Lib.hid (by have := hr.len; rw [rows_length ce SC.e_length] at this; omega)
  have hlm : A.length = m := by have := hu.len; rw [rows_length ce SC.e_length] at this; omega
  clear hr
  have HL := Lib.hid hl
  clear hl
  go_enter Try.func35, Try.ntmps35
  go_wp2_with fail
  refine HC.out.mono ?_
  rintro e w1 ⟨r, rfl, H⟩
  clear HC
  have HU := Lib.hid hu
  have HA := Lib.hid hA
  obtain ⟨M, hP⟩ : ∃ M, Hid (base ++ pairsF A = M) := ⟨_, rfl⟩
  have hPM := hP
  have hn2 : n + m / 2 ≤ 2000 := by omega
  go_wp2_with fail
  clear hu hA
  go_loopw [1, 5] (fun s1 s5 wx => ∃ (k q : Nat) (B P : List Coin), Hid (Rd w 2 s1 k (rows ce B)) ∧ Hid (B.length = k) ∧ k ≤ 1000 ∧ q + k / 2 ≤ 2000 ∧ Hid (P ++ pairsF B = M) ∧ Hid (∀ c ∈ B, 0 ≤ c.w ∧ c.w ≤ 1000000000000000000) ∧ Hid (P.length = q) ∧ Own w wx [slc 65 2 s5 q (rows ce P)]) (fun s1 _ _ => sliceLen s1)
  case atStart => exact ⟨m, n, A, base, HU, Lib.hid hlm, hm, hn2, hP, HA, hbn, H⟩
  case round =>
    clear H HU HA hP hn2 hn hm hlm hbn
    obtain ⟨k, q, B, P, HU, hB, hk, hq, hP, HA, hPl, H⟩ := hrel
    by_cases h2 : 2 ≤ k
    · obtain ⟨c1, c2, t, rfl⟩ : ∃ (c1 c2 : Coin) (t : List Coin), B = c1 :: c2 :: t := by
        match B, hB.out with
        | [], h => simp at h; omega
        | [_], h => simp at h; omega
        | c1 :: c2 :: t, _ => exact ⟨c1, c2, t, rfl⟩
      obtain ⟨k, rfl⟩ : ∃ k', k = k' + 2 := ⟨k - 2, by omega⟩
      have hu := HU.out
      obtain ⟨b, o, c, rfl, hc1, hc2⟩ := hu.some (by rw [rows_length ce SC.e_length]; simp)
      have g1 : ∀ (ps' : List Piece) (w' : World), Own w w' ps' → w'.cell? ⟨b, o, none⟩ = some (.int .i64 c1.w) ∧ w'.cell? ⟨b, o + 2, none⟩ = some (.int .i64 c2.w) := fun _ w' h => by
        have h := hu.old h
        exact And.intro (h.cell (j := 0) rfl) (h.cell (j := 2) rfl)
      have G1 := Lib.hid g1
      have HU2 := Lib.hid (rd_tail2 hu)
      have hB2 : Hid (t.length = k) := Lib.hid (by have := hB.out; simp at this; omega)
      have HA2 : Hid (∀ c ∈ t, 0 ≤ c.w ∧ c.w ≤ 1000000000000000000) := Lib.hid (fun c hc => HA.out c (by simp [hc]))
      have hP2 : Hid ((P ++ [(⟨c1.w + c2.w, true⟩ : Coin)]) ++ pairsF t = M) := Lib.hid (by rw [← hP.out, pairsF, List.append_assoc]; rfl)
      have hPl2 : Hid ((P ++ [(⟨c1.w + c2.w, true⟩ : Coin)]).length = q + 1) := Lib.hid (by rw [List.length_append, hPl.out]; rfl)
      have b1 := HA.out c1 (by simp)
      have b2 := HA.out c2 (by simp)
      have hrow0 : rows ce P ++ ce ⟨c1.w + c2.w, true⟩ = rows ce (P ++ [⟨c1.w + c2.w, true⟩]) := by rw [rows_append, rows_one]
      have HR0 := Lib.hid hrow0
      clear hu g1 HU hB HA hP hPl hrow0
      generalize c1.w = x1 at *
      generalize c2.w = x2 at *
      obtain ⟨s, hs⟩ : ∃ s, Hid (x1 + x2 = s) := ⟨_, rfl⟩
      have hsw : IntKind.i64.wrap (x1 + x2) = s := by rw [← hs.out]; exact IntWalk.i64_in _ ⟨by omega, by omega⟩
      rw [hs.out] at hP2 hPl2 HR0
      have hcc : ((k : Int) + 2 ≤ (c : Int)) := by omega
      have hk0 : (0 : Int) < (k : Int) + 2 := by omega
      have hk1 : (1 : Int) < (k : Int) + 2 := by omega
      go_upto_region 4 with (fail)
      refine wp_region_new (fun σ w1 => Own w w1 (newR (.cells #[.int .i64 s, .bool true] 65) 1 (σ 11) ++ (slc 65 2 u5 q (rows ce P) :: []))) 12 [11] (by kernel_rfl) (by kernel_rfl) H.drew ?_
      simp only [List.take_succ_cons, List.take_zero, List.drop_succ_cons, List.drop_zero]
      repeat
        first
        | (refine calm_value (v := ?_) (by decide) rfl (fun σ w1 hS => ?_) ?_
           rotate_left
           · obtain ⟨c0, c1⟩ := G1.out _ _ hS
             first | (go_simp; rfl) | rfl
           simp only [Act.put, List.setIfInBounds_toArray, List.set_cons_zero, List.set_cons_succ])
        | (refine calm_skip (by decide) rfl ?_
           simp only [Act.put, List.setIfInBounds_toArray, List.set_cons_zero, List.set_cons_succ])
      refine calm_row (by decide) (fun w1 => (by go_simp)) ?_
      refine calm_nil ?_
      intro σ wd hσ HD
      obtain ⟨vn, hvn⟩ := Option.isSome_iff_exists.1 (hσ 11 (by decide))
      rw [hvn] at HD
      obtain ⟨g2, rfl, HN⟩ := HD.newr
      clear HD H
      simp only [putNew, List.foldl_cons, List.foldl_nil, hvn]
      simp only [Act.put, List.setIfInBounds_toArray, List.set_cons_zero, List.set_cons_succ, List.getElem?_cons_succ, List.getElem?_cons_zero, Option.bind_some, Option.getD_some]
      have hrow := (HN.slc_mk (xs := ce ⟨s, true⟩) (n := 1) (size := 2) rfl (Nat.le_refl _) (by decide) rfl rfl).rd
      have H := HN.drop
      clear HN
      go_wp2_with (at_builtin; refine wpList_append_sep rfl _ _ rfl Try.underlying63 coinInfo rfl (by decide) rfl H hrow (SC.e_one _) (by omega) (by omega) ?_; clear H hrow; intro v' w' H; rw [HR0.out] at H)
      go_roundw
      case rel => exact ⟨k, q + 1, t, P ++ [⟨s, true⟩], HU2, hB2, by omega, by omega, hP2, HA2, hPl2, H⟩
      case measure => simp [sliceLen]
    · have hB0 : pairsF B = [] := List.eq_nil_of_length_eq_zero (by rw [pairsF_length, hB.out]; omega)
      have hPM2 : P = M := by rw [← hP.out, hB0, List.append_nil]
      subst hPM2
      have hq1 : 0 < q := by rw [← hPl.out, ← hPM.out, List.length_append]; have := HL.out; omega
      obtain ⟨a, cp, rfl, hc1, hc2⟩ := HU.out.shape
      obtain ⟨g, c, rfl, hd1, hd2, _⟩ := H.at (by rw [rows_length ce SC.e_length, hPl.out]; omega)
      have HS := Lib.hid (sortC_any hPl.out.symm (by omega) H)
      have hkI : ¬ (2 : Int) ≤ (k : Int) := by omega
      have hR : Hid (sortF Coin.w P = rowF base A) := Lib.hid (by rw [← hPM.out]; rfl)
      have hRl : Hid ((rowF base A).length = q) := Lib.hid (by rw [← hR.out, ← (sortF_law P).2.length, hPl.out])
      clear HU hB hB0 hP HA hPl H HL hPM h2
      go_wp2_with fail
      refine HS.out.mono ?_
      rintro e w2 ⟨_, rfl, H2⟩
      rw [hR.out] at H2
      go_wp2
      go_ret
      exact ⟨_, rfl, by rw [hRl.out]; exact H2⟩

set_option maxHeartbeats 800000 in
/-- How many pairs are among the first so many. -/
theorem counted_any {w : World} {v : Value} {n k : Nat} {l : List Coin} (hr : Rd w 2 v n (rows ce l)) (hn : n ≤ 1000000) (hk : k ≤ n) :
    Calls Try.prog 36 #[v, .int .i64 k] w (Ret fun r w' => r = .tuple #[.int .i64 ((k - npF l k : Nat) : Int), .int .i64 (npF l k)] ∧ Own w w' []) := by
  have hln : l.length = n := by have := hr.len; rw [rows_length ce SC.e_length] at this; omega
  have hle := npF_le l k
  obtain ⟨Z, hZ⟩ : ∃ Z, Hid (npF l k = Z) := ⟨_, rfl⟩
  rw [hZ.out] at hle ⊢
  obtain ⟨a, c, rfl, hc1, hc2⟩ := hr.shape
  have HR := Lib.hid hr
  have hl := Lib.hid hln
  have H := Own.start w
  clear hr hln
  go_enter Try.func36, Try.ntmps36
  go_wp2_with fail
  go_loopw [6, 13] (fun s6 s13 wx => ∃ i : Nat, s13 = .int .i64 i ∧ i ≤ k ∧ s6 = .int .i64 (npF l i) ∧ Own w wx []) (fun _ s13 _ => k - (intOf s13).toNat)
  case atStart => exact ⟨0, by go_num, by omega, by simp [npF], H⟩
  case round =>
    clear H
    obtain ⟨i, rfl, hi, rfl, H⟩ := hrel
    have hpl := npF_le l i
    by_cases hlt : i < k
    · obtain ⟨x, hx⟩ := get_of_lt (l := l) (k := i) (by have := hl.out; omega)
      have hp : npF l (i + 1) = npF l i + if x.pair then 1 else 0 := by
        unfold npF
        rw [List.take_add_one, hx, List.countP_append]
        simp
      obtain ⟨y, hy⟩ : ∃ y, Hid (npF l i = y) := ⟨_, rfl⟩
      have HP := Lib.hid hp
      have hr := HR.out
      obtain ⟨b, o, c', he, _⟩ := hr.some (by rw [rows_length ce SC.e_length]; have := hl.out; omega)
      cases he
      have hr2 := (HR.out.old H)
      have g0 : wr.cell? ⟨b, o + i * 2, none⟩ = some (.int .i64 x.w) := by
        have := hr2.cell ((rows_get ce SC.e_length hx 0 (by omega)).trans rfl)
        simpa using this
      have g1 : wr.cell? ⟨b, o + (i * 2 + 1), none⟩ = some (.bool x.pair) := hr2.cell ((rows_get ce SC.e_length hx 1 (by omega)).trans rfl)
      have g2 : wr.cell? ⟨b, o + i * 2 + 1, none⟩ = some (.bool x.pair) := g1
      have hI : (i : Int) < (k : Int) := by omega
      clear hp hr hr2 hx
      obtain ⟨xw, xp⟩ := x
      simp only at g0 g1 g2 HP
      obtain ⟨gc, hgc⟩ : ∃ gc, Hid (wr.heap.size = gc) := ⟨_, rfl⟩
      rw [hy.out] at HP hpl ⊢
      cases xp
      all_goals
        go_wp2_with (refine wpList_store_agg rfl _ _ rfl rfl (H.alloc _) rfl (by kernel_rfl) (by simp) (by simp; exact ⟨rfl, rfl⟩) rfl ?_; clear H; intro w5 H; rw [hgc.out] at H ⊢; have c0 := H.cells)
        go_roundw
        case rel => exact ⟨i + 1, by go_num, by omega, by rw [HP.out]; simp, H.bare⟩
        case measure => simp [intOf]; omega
    · obtain rfl : i = k := by omega
      have hz := hZ.out
      rw [hz] at hpl ⊢
      have hw : IntKind.i64.wrap ((i : Int) - (Z : Int)) = ((i - Z : Nat) : Int) := by rw [IntWalk.i64_in _ ⟨by omega, by omega⟩]; omega
      clear hz
      go_wp2
      go_ret2
      exact ⟨_, rfl, rfl, H⟩
end Go.Proofs.Ytfeamlbkogigkaa
