/-
  The walks of SplitCuts.
-/
import Derived.Test.YtgodpkfmmnonoaaApp
import Derived.Test.YtgodpkfmmnonoaaRows
import Derived.WalkSpells
import Derived.WalkLawsBesides
import Derived.BigQuiet
import Derived.Deep.DeepCutAuto
import Derived.Deep.CutBlock
import Derived.Deep.LoopGhost
import Derived.Deep.QuietTactic
namespace Go.Proofs.Ytgodpkfmmnonoaa
open Go.RowKit

theorem eq_of_getD {xs ys : List Int} (h : xs.length = ys.length) (hh : ∀ j, j < xs.length → xs.getD j 0 = ys.getD j 0) : xs = ys := by
  apply List.ext_getElem h
  intro i h1 h2
  have := hh i h1
  simpa [List.getD, h1, h2] using this

theorem ret_bool {a b : Bool} (h : b = a) : Ending.returned (.bool a) = .returned (.bool b) := by rw [h]
def sliceLen : Value → Nat | .slice _ n _ => n | _ => 0
theorem val_int {k : IntKind} {a b : Int} (h : a = b) : Value.int k a = .int k b := by rw [h]
/-- It returns a value of which R holds. -/
def Ret (R : Value → World → Prop) (e : Ending) (w' : World) : Prop := ∃ v, e = .returned v ∧ R v w'
theorem ret_int {k : IntKind} {a b : Int} (h : a = b) : Ending.returned (.int k a) = .returned (.int k b) := by rw [h]
theorem drewN_add (w : World) (m n : Nat) : (w.drewN m).drewN n = w.drewN (m + n) := by simp [World.drewN, Nat.add_assoc]
theorem ints_get (k : IntKind) (xs : List Int) {j : Nat} (h : j < xs.length) : (xs.map (Value.int k))[j]? = some (.int k (xs.getD j 0)) := by
  simp [List.getD, h]

set_option maxHeartbeats 400000 in
theorem same_quiet (v1 v2 : Value) (n1 n2 : Nat) (xs ys : List Int) (w : World) (h1 : Rd w 1 v1 n1 (xs.map (.int .i64))) (h2 : Rd w 1 v2 n2 (ys.map (.int .i64))) :
    Calls Try.prog 6 #[v1, v2] w fun e w' => e = .returned (.bool (decide (xs = ys))) ∧ ∃ n, w' = w.drewN n := by
  have F1 := Lib.hid h1; clear h1
  have F2 := Lib.hid h2; clear h2
  have E1 : Hid (n1 = xs.length) := by have := F1.out.len; simp at this; exact this.symm
  have E2 : Hid (n2 = ys.length) := by have := F2.out.len; simp at this; exact this.symm
  obtain ⟨a1, c1, rfl, hn1, hm1⟩ := F1.out.shape
  obtain ⟨a2, c2, rfl, hn2, hm2⟩ := F2.out.shape
  go_enter Try.func6, Try.ntmps6
  go_wp2
  · have HN : Hid (n1 ≠ n2) := by have h : ((n1 : Int) != (n2 : Int)) = true := by assumption
                                  simp at h; exact Lib.hid (by omega)
    go_ret
    exact ⟨ret_bool (by simp; intro h; exact HN.out (by rw [E1.out, E2.out, h])), 0, rfl⟩
  · have HN : Hid (n1 = n2) := by have h : ((n1 : Int) != (n2 : Int)) = false := by assumption
                                  simp at h; exact Lib.hid (by omega)
    go_loopw [5] (fun i wr => ∃ k : Nat, k ≤ n1 ∧ i = .int .i64 k ∧ (∃ m, wr = w.drewN m) ∧ Hid (∀ j, j < k → xs.getD j 0 = ys.getD j 0)) (fun i _ => n1 - (intOf i).toNat)
    case atStart => exact ⟨0, Nat.zero_le _, rfl, ⟨0, rfl⟩, Lib.hid (by intro j hj; omega)⟩
    case round =>
      obtain ⟨k, hk, rfl, ⟨m, rfl⟩, hall⟩ := hrel
      by_cases hlt : k < n1
      · have hlt2 : k < n2 := by have := HN.out; omega
        obtain ⟨b1, o1, c1, e1, _, _, g1⟩ := F1.out.at (by have := F1.out.len; omega)
        obtain ⟨b2, o2, c2, e2, _, _, g2⟩ := F2.out.at (by have := F2.out.len; omega)
        cases e1; cases e2
        replace g1 := g1 k _ (ints_get _ _ (by have := E1.out; omega))
        replace g2 := g2 k _ (ints_get _ _ (by have := E2.out; omega))
        obtain ⟨x, hx⟩ : ∃ x, Hid (xs.getD k 0 = x) := ⟨_, rfl⟩
        obtain ⟨y, hy⟩ : ∃ x, Hid (ys.getD k 0 = x) := ⟨_, rfl⟩
        rw [hx.out] at g1; rw [hy.out] at g2
        go_wp2
        go_quiet (fail)
        go_wp2
        · have h : (x != y) = true := by assumption
          go_ret
          exact ⟨ret_bool (by simp at h ⊢; rintro rfl; exact h (by rw [← hx.out, hy.out])), m + nq, by first | rfl | exact drewN_add _ _ _⟩
        · have h : (x != y) = false := by assumption
          go_round
          case rel => exact ⟨k + 1, by omega, by go_num, ⟨_, rfl⟩, Lib.hid (fun j hj => by
            by_cases e : j = k
            · subst e; rw [hx.out, hy.out]; simpa using h
            · exact hall.out j (by omega))⟩
          case measure => simp [intOf]; omega
      · go_wp2
        go_ret
        refine ⟨ret_bool ?_, _, rfl⟩
        simp
        exact eq_of_getD (by rw [← E1.out, ← E2.out, HN.out]) (fun j hj => hall.out j (by have := E1.out; omega))

theorem same_any (v1 v2 : Value) (n1 n2 : Nat) (xs ys : List Int) (w : World) (h1 : Rd w 1 v1 n1 (xs.map (.int .i64))) (h2 : Rd w 1 v2 n2 (ys.map (.int .i64))) :
    Calls Try.prog 6 #[v1, v2] w fun e w' => e = .returned (.bool (decide (xs = ys))) ∧ Own w w' [] :=
  (same_quiet v1 v2 n1 n2 xs ys w h1 h2).mono fun _ _ ⟨he, n, hw⟩ => ⟨he, by rw [hw]; exact (Own.start w).drewN n⟩

theorem intInfo : (Try.prog.info? 3).map (fun i => (i.zero, i.size, i.bytes)) = some (some (.int .i64 0), 1, 8) := by kernel_rfl

/-- the size of a segment -/
def cutSize (n : Int) : Int := max (n.tdiv 12 + if n.tmod 12 > 0 then 1 else 0) 64
def cutRow (s : Int) (k : Nat) : List Int := (List.range k).map fun (j : Nat) => s * ((j : Int) + 1)
theorem cutRow_succ (s : Int) (k : Nat) : cutRow s (k + 1) = cutRow s k ++ [s * ((k : Int) + 1)] := by simp [cutRow, List.range_succ]
theorem cutRow_length (s : Int) (k : Nat) : (cutRow s k).length = k := by simp [cutRow]

theorem tdiv12 (n : Int) : 12 * n.tdiv 12 + n.tmod 12 = n ∧ (0 ≤ n → 0 ≤ n.tmod 12 ∧ n.tmod 12 < 12) ∧ (n < 0 → -12 < n.tmod 12 ∧ n.tmod 12 ≤ 0) := by
  refine ⟨Int.mul_tdiv_add_tmod n 12, fun h => ?_, fun h => ?_⟩
  · rw [Int.tmod_eq_emod_of_nonneg h]; omega
  · have : n.tmod 12 = -((-n).tmod 12) := by rw [Int.neg_tmod]; omega
    rw [this, Int.tmod_eq_emod_of_nonneg (by omega)]; omega
theorem cutSize_of {n q : Int} (h : q = n.tdiv 12 + if n.tmod 12 > 0 then 1 else 0) : cutSize n = max q 64 := by rw [h]; rfl
theorem cutSize_bd (n : Int) (h1 : -9223372036854775808 ≤ n) (h2 : n ≤ 9223372036854775807) : 64 ≤ cutSize n ∧ cutSize n ≤ 768614336404564651 := by
  have := tdiv12 n
  unfold cutSize
  split <;> omega

def CutsR (n : Int) (w : World) (v : Value) (w' : World) : Prop := ∃ k : Nat, k ≤ 11 ∧ (k = 0 ∨ cutSize n * k < n) ∧ (k = 11 ∨ n ≤ cutSize n * (k + 1)) ∧
  Own w w' [slc 3 1 v (k + 1) ((cutRow (cutSize n) k ++ [max n 0]).map (.int .i64))]

set_option maxHeartbeats 400000 in
theorem cuts_any (n : Int) (hn : -9223372036854775808 ≤ n ∧ n ≤ 9223372036854775807) (w : World) :
    Calls Try.prog 4 #[.int .i64 n] w (Ret (CutsR n w)) := by
  obtain ⟨hn1, hn2⟩ := hn
  have ht := Lib.hid (tdiv12 n)
  have hbd := cutSize_bd n hn1 hn2
  obtain ⟨s, hs⟩ : ∃ s, Hid (cutSize n = s) := ⟨_, rfl⟩
  rw [hs.out] at hbd
  obtain ⟨hb1, hb2⟩ := hbd
  go_enter Try.func4, Try.ntmps4
  go_upto_if 10 with (fail)
  go_cut [3] (fun s3 wx => wx = w ∧ ∃ q : Int, s3 = .int .i64 q ∧ -768614336404564651 ≤ q ∧ q ≤ 768614336404564651 ∧ Hid (s = max q 64))
  case first =>
    have hb : -768614336404564650 ≤ n.tdiv 12 ∧ n.tdiv 12 ≤ 768614336404564650 := by have := ht.out; omega
    go_wp2
    all_goals go_meet
    · exact ⟨rfl, _, rfl, by omega, by omega, Lib.hid (by rw [← hs.out]; exact cutSize_of (by rw [if_pos (by assumption)]))⟩
    · exact ⟨rfl, _, rfl, by omega, by omega, Lib.hid (by rw [← hs.out]; exact cutSize_of (by rw [if_neg (by omega)]; simp))⟩
  case rest =>
    obtain ⟨rfl, q, rfl, hq1, hq2, hq⟩ := hcut
    go_upto_region 4 with (fail)
    go_cut [3] (fun s3 wx => wx = wc ∧ s3 = .int .i64 s)
    case first =>
      go_wp2
      all_goals go_meet
      all_goals exact ⟨rfl, val_int (by have := hq.out; omega)⟩
    case rest =>
      obtain ⟨rfl, rfl⟩ := hcut
      go_wp2
      go_loopw [4, 5] (fun l at_ wr => ∃ k : Nat, ∃ t : Int, k ≤ 11 ∧ at_ = .int .i64 t ∧ Hid (k < 11 → t = s * (k + 1)) ∧ Hid (k = 0 ∨ s * k < n) ∧ Own wc wr [slc 3 1 l k ((cutRow s k).map (.int .i64))])
        (fun l _ _ => 11 - sliceLen l)
      case atStart => exact ⟨0, s, by omega, rfl, Lib.hid (by intro _; simp), Lib.hid (.inl rfl), (Own.start wc).nil _ _⟩
      case round =>
        obtain ⟨k, t, hk, rfl, ht, hlow, hown⟩ := hrel
        obtain ⟨a, c, rfl, _, _⟩ := hown.rd.shape
        go_wp2_with (first
          | (at_builtin; refine wpList_append_one rfl _ _ rfl Try.underlying22 intInfo rfl (by decide) rfl hown rfl rfl rfl (by simp [Value.oneCell']) (by omega) (by omega) ?_; intro v' w' hown'))
        · obtain ⟨_, _, rfl, _, _⟩ := hown'.rd.shape
          go_roundw
          case rel => exact ⟨k + 1, _, by omega, rfl, Lib.hid (fun h => by
              have e := ht.out (by omega)
              have : s * (k + 1) + s = s * ((k + 1 : Nat) + 1) := by rw [Int.natCast_add, Int.mul_add s ((k : Int) + (1 : Nat)) 1]; simp
              have hmul : s * ((k + 1 : Nat) + 1) ≤ 768614336404564651 * 11 := by
                refine Int.le_trans (Int.mul_le_mul_of_nonneg_right hb2 (by omega)) ?_
                omega
              have hmul0 : 0 ≤ s * ((k + 1 : Nat) + 1) := Int.mul_nonneg (by omega) (by omega)
              rw [← this, ← e] at hmul hmul0 ⊢
              exact IntWalk.wrap64_in _ ⟨by omega, by omega⟩), Lib.hid (.inr (by
              have h1 : t < n := by assumption
              rw [ht.out (by omega)] at h1; simpa using h1)), by rw [cutRow_succ, List.map_append]; simpa [ht.out (show k < 11 by omega)] using hown'⟩
          case measure => simp [sliceLen]; omega
        all_goals
          go_ret
          refine ⟨v', rfl, k, hk, ?_⟩
          rw [hs.out]
          refine ⟨hlow.out, ?_, ?_⟩
          · first
              | exact .inl (by omega)
              | (have h1 : n ≤ t := by assumption
                 by_cases h : k < 11
                 · right; rw [ht.out h] at h1; exact h1
                 · left; omega)
          · rw [List.map_append]
            have e : (max n 0 : Int) = if n < 0 then 0 else n := by omega
            rw [e]; simpa using hown'

theorem cuts_1200 (w : World) : Calls Try.prog 4 #[.int .i64 1200] w (Ret fun v w' => Own w w' [slc 3 1 v 12 ([100, 200, 300, 400, 500, 600, 700, 800, 900, 1000, 1100, 1200].map (.int .i64))]) := by
  refine (cuts_any 1200 (by omega) w).mono ?_
  rintro e w' ⟨v, rfl, k, hk, h1, h2, hown⟩
  have hs : cutSize 1200 = 100 := by decide
  rw [hs] at h1 h2 hown
  obtain rfl : k = 11 := by omega
  exact ⟨v, rfl, hown⟩
theorem cuts_200 (w : World) : Calls Try.prog 4 #[.int .i64 200] w (Ret fun v w' => Own w w' [slc 3 1 v 4 ([64, 128, 192, 200].map (.int .i64))]) := by
  refine (cuts_any 200 (by omega) w).mono ?_
  rintro e w' ⟨v, rfl, k, hk, h1, h2, hown⟩
  have hs : cutSize 200 = 64 := by decide
  rw [hs] at h1 h2 hown
  obtain rfl : k = 3 := by omega
  exact ⟨v, rfl, hown⟩

set_option maxHeartbeats 400000 in
theorem awake_any (w : World) : Calls Try.prog 5 #[] w (Ret fun v w' => v = .bool true ∧ Own w w' []) := by
  go_enter Try.func5, Try.ntmps5
  go_wp2_with fail
  refine (cuts_1200 w).mono ?_
  rintro e w1 ⟨v1, rfl, h1⟩
  go_wp2_with fail
  refine (cuts_200 w1).mono ?_
  rintro e w2 ⟨v2, rfl, h2⟩
  have H := h1.join h2
  have H3 := H.made ([64, 128, 192, 200].map (.int .i64)) 3 1 4 rfl (by decide)
  go_wp2_with fail
  refine (same_any _ _ 4 4 [64, 128, 192, 200] [64, 128, 192, 200] _ ?_ ?_).mono ?_
  · exact (H3.front 1 rfl).rd
  · exact H3.rd
  rintro e w3 ⟨rfl, h3⟩
  have H4 := (H3.join h3).front 2 rfl
  obtain ⟨g, c, rfl, _, _, _, _, hc, _⟩ := H4.at (by decide)
  have c0 := hc 0 _ rfl
  have c11 := hc 11 _ rfl
  clear hc
  go_wp2
  go_ret
  exact ⟨.bool true, rfl, rfl, H4.drop.drop.drop⟩

set_option maxRecDepth 100000 in
set_option maxHeartbeats 800000 in
theorem law_any (n : Int) (hn : -9223372036854775808 ≤ n ∧ n ≤ 9223372036854775807) (w : World) :
    Calls Try.prog 3 #[.int .i64 n] w (Ret fun v w' => v = .bool true ∧ Own w w' []) := by
  obtain ⟨hn1, hn2⟩ := hn
  have ht := Lib.hid (tdiv12 n)
  have hbd := cutSize_bd n hn1 hn2
  go_enter Try.func3, Try.ntmps3
  go_wp2_with fail
  refine (cuts_any n ⟨hn1, hn2⟩ w).mono ?_
  rintro e w1 ⟨v, rfl, k, hk, h1, h2, hown⟩
  obtain ⟨s, hs⟩ : ∃ s, Hid (cutSize n = s) := ⟨_, rfl⟩
  rw [hs.out] at hbd h1 h2 hown
  obtain ⟨hb1, hb2⟩ := hbd
  have H1 := Lib.hid h1; clear h1
  have H2 := Lib.hid h2; clear h2
  obtain ⟨g, c, rfl, hkc, hcm, _, _, hc, _⟩ := hown.at (by simp)
  go_upto_if 10 with (fail)
  go_cut [4] (fun s4 wx => wx = w1 ∧ s4 = .int .i64 s)
  case first =>
    have hb : -768614336404564650 ≤ n.tdiv 12 ∧ n.tdiv 12 ≤ 768614336404564650 := by have := ht.out; omega
    go_wp2
    all_goals go_meet
    all_goals refine ⟨rfl, val_int ?_⟩
    all_goals
      rw [← hs.out]
      have := ht.out
      unfold cutSize
      split <;> omega
  case rest =>
    obtain ⟨rfl, rfl⟩ := hcut
    go_upto_if 20 with (fail)
    go_cut [5] (fun s5 wx => wx = wc ∧ s5 = .int .i64 (max n 0))
    case first =>
      go_wp2
      all_goals go_meet
      all_goals exact ⟨rfl, val_int (by omega)⟩
    case rest =>
      obtain ⟨rfl, rfl⟩ := hcut
      have cl := hc k (.int .i64 (max n 0)) (by simp [cutRow_length])
      go_wp2_with fail
      · exfalso
        have h : ((k : Int) + 1 == 0) = true ∨ 12 < (k : Int) + 1 := by assumption
        rcases h with h | h
        · simp at h; omega
        · omega
      go_loop [6] (fun i => ∃ j : Nat, j ≤ k ∧ i = .int .i64 j) (fun i => k - (intOf i).toNat)
      case atStart => exact ⟨0, Nat.zero_le _, rfl⟩
      case round =>
        obtain ⟨j, hj, rfl⟩ := hrel
        by_cases hlt : j < k
        · have cj := hc j (.int .i64 (s * ((j : Int) + 1))) (by simp [cutRow, hlt, List.getElem?_append])
          have hm : 0 ≤ s * ((j : Int) + 1) ∧ s * ((j : Int) + 1) ≤ 8454757700450211161 := by
            refine ⟨Int.mul_nonneg (by omega) (by omega), ?_⟩
            refine Int.le_trans (Int.mul_le_mul_of_nonneg_right hb2 (by omega)) ?_
            omega
          go_wp2_with fail
          go_round
          case rel => exact ⟨j + 1, by omega, by go_num⟩
          case measure => simp [intOf]; omega
        · obtain rfl : j = k := by omega
          by_cases hk0 : j = 0
          · subst hk0
            have hns : n ≤ s := by have := H2.out; simp at this; exact this
            go_wp2_with fail
            refine (awake_any wc).mono ?_
            rintro e w2 ⟨v, rfl, rfl, h3⟩
            go_wp2
            go_ret
            exact ⟨_, rfl, rfl, (hown.join h3).drop⟩
          · obtain ⟨m, rfl⟩ : ∃ m, j = m + 1 := ⟨j - 1, by omega⟩
            have cm := hc m (.int .i64 (s * ((m : Int) + 1))) (by simp [cutRow, List.getElem?_append])
            have hm1 : s * ((m : Int) + 1) < n := by have := H1.out; simpa using this
            have hm2 : n - s * ((m : Int) + 1) ≤ s := by
              rcases H2.out with h | h
              · have hs2 := hs.out
                have := ht.out
                obtain rfl : m = 10 := by omega
                unfold cutSize at hs2
                simp
                split at hs2 <;> omega
              · rw [Int.natCast_add, Int.mul_add s ((m : Int) + (1 : Nat)) 1] at h
                simp at h
                omega
            have hm3 : 0 ≤ s * ((m : Int) + 1) := Int.mul_nonneg (by omega) (by omega)
            go_wp2_with fail
            refine (awake_any wc).mono ?_
            rintro e w2 ⟨v, rfl, rfl, h3⟩
            go_wp2
            go_ret
            exact ⟨_, rfl, rfl, (hown.join h3).drop⟩
end Go.Proofs.Ytgodpkfmmnonoaa
