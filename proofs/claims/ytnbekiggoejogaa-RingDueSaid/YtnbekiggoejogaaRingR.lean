/-
  The reference's things that are due: the walks.
-/
import Derived.Test.YtnbekiggoejogaaRingO
namespace Go.Proofs.Ytnbekiggoejogaa
open Go.RowKit

theorem nums_one (l : List Int) : ∀ u ∈ nums l, u.oneCell' = true := by
  intro u hu
  obtain ⟨s, _, rfl⟩ := List.mem_map.1 hu
  rfl
theorem Rd.ofEq {w : World} {size n n' : Nat} {v : Value} {xs ys : List Value} (h : Rd w size v n xs) (h1 : n = n') (h2 : xs = ys) : Rd w size v n' ys := by subst h1; subst h2; exact h
/-- 'l[k:]', as the walk has it. -/
theorem Rd.tailk {w : World} {n b o cap k : Nat} {xs : List Value} (h : Rd w 1 (.slice (Option.some ⟨b, o, none⟩) n cap) n xs) (hk : k ≤ n) :
    Rd w 1 (.slice (if cap = k then Option.some ⟨b, o, none⟩ else Option.some ⟨b, o + k, none⟩) (n - k) (cap - k)) (n - k) (xs.drop k) := by
  have h1 := h.tail hk
  by_cases hc : cap = k
  · subst hc
    obtain ⟨hl, a, c, e, hle, hm, _⟩ := h
    cases e
    have hn : n = cap := by omega
    subst hn
    rw [if_pos rfl, Nat.sub_self]
    have hx : xs.drop n = [] := List.drop_eq_nil_of_le (by omega)
    rw [hx]
    exact ⟨by simp, _, _, rfl, by omega, by simp [maxLen], by simp, fun ad _ j u hu => by simp at hu⟩
  · rw [if_neg hc]
    have e : (⟨b, o, none⟩ : Addr).add (k * 1) = ⟨b, o + k, none⟩ := by
      rw [Nat.mul_one]
      simp [Addr.add]
    rw [e, Nat.mul_one] at h1
    exact h1

set_option maxHeartbeats 800000 in
theorem without_any (l : List Int) (k : Nat) {v : Value} (w : World) (hr : Rd w 1 v l.length (nums l)) (hk : k < l.length) (hl : l.length ≤ 100000) :
    Calls Try.prog 25 #[v, .int .i64 k] w (Ret fun v w' => Own w w' [slc 3 1 v (l.eraseIdx k).length (nums (l.eraseIdx k))]) := by
  obtain ⟨b, o, c, rfl, hc1, hc2⟩ := hr.some (by rw [nums_length]; omega)
  obtain ⟨n, hn⟩ : ∃ n, Hid (l.length = n) := ⟨_, rfl⟩
  rw [hn.out] at hr hk hl hc1
  have HR := Lib.hid hr
  clear hr
  have hkI : (k : Int) ≤ (c : Int) := by omega
  have hkI2 : (k : Int) + 1 ≤ (n : Int) := by omega
  have h0 : (0 : Int) ≤ (k : Int) := by omega
  have H := (Own.start w).nil 3 1
  go_enter Try.func25, Try.ntmps25
  rw [hn.out]
  have e0 : nums (l.eraseIdx k) = nums (l.take k) ++ nums (l.drop (k + 1)) := by
    rw [List.eraseIdx_eq_take_drop_succ]
    simp [nums]
  have e1 : (l.eraseIdx k).length = 0 + k + (n - (k + 1)) := by rw [List.length_eraseIdx, if_pos (by rw [hn.out]; exact hk), hn.out]; omega
  have E0 := Lib.hid e0
  have E1 := Lib.hid e1
  clear e0 e1
  go_upto_region 3 with (refine wpList_append_sep rfl _ _ rfl Try.underlying28 RingInt.info rfl (by decide) rfl H (m := k) (news := nums (l.take k)) (by exact (HR.out.take (k := k) (by omega)).ofEq rfl (by simp [nums])) (nums_one _) (by omega) (by omega) ?_; clear H; intro v3 w3 H)
  have HR3 := HR.out.old H
  have hsrc := HR3.tailk (k := k + 1) (by omega)
  obtain ⟨a3, c3, rfl, h31, h32⟩ := H.rd.shape
  by_cases hcc : c = k + 1
  · have hnk : n = k + 1 := by omega
    subst hnk
    subst hcc
    rw [if_pos rfl, Nat.sub_self] at hsrc
    have hz : Hid ((nums l).drop (k + 1) = []) := Lib.hid (List.drop_eq_nil_of_le (by rw [nums_length, hn.out]; exact Nat.le_refl _))
    rw [hz.out] at hsrc
    have HSRC := Lib.hid hsrc
    clear hsrc HR3
    go_wp2_with (refine wpList_append_sep rfl _ _ rfl Try.underlying28 RingInt.info rfl (by decide) rfl H (m := 0) (news := []) (by exact HSRC.out) (by simp) (by omega) (by omega) ?_; clear H; intro v5 w5 H)
    go_ret
    refine ⟨_, rfl, ?_⟩
    rw [E1.out, E0.out]
    have hz2 : nums (l.drop (k + 1)) = [] := by have := hz.out; simpa [nums] using this
    rw [hz2]
    simpa using H
  · rw [if_neg hcc] at hsrc
    have HSRC := Lib.hid hsrc
    clear hsrc HR3
    go_wp2_with (refine wpList_append_sep rfl _ _ rfl Try.underlying28 RingInt.info rfl (by decide) rfl H (m := n - (k + 1)) (news := (nums l).drop (k + 1)) (by exact HSRC.out) (fun u hu => nums_one l u (List.mem_of_mem_drop hu)) (by omega) (by omega) ?_; clear H; intro v5 w5 H)
    go_ret
    refine ⟨_, rfl, ?_⟩
    rw [E1.out, E0.out]
    have hz2 : (nums l).drop (k + 1) = nums (l.drop (k + 1)) := by simp [nums]
    rw [hz2] at H
    simpa using H

/-- The reference's things that are due. -/
def RDu (g : Nat) (M : List (It Int)) : Piece := ex fun p : Value × Value => star (blk g (.cells #[p.1, p.2] 30)) (star (slc 3 1 p.1 M.length (nums (M.map (·.at_)))) (slc 3 1 p.2 M.length (nums (M.map (·.x)))))
theorem rdu_open {w0 w : World} {ps : List Piece} {g : Nat} {M : List (It Int)} (h : Own w0 w (RDu g M :: ps)) : ∃ v u, Own w0 w (blk g (.cells #[v, u] 30) :: slc 3 1 v M.length (nums (M.map (·.at_))) :: slc 3 1 u M.length (nums (M.map (·.x))) :: ps) := by
  obtain ⟨⟨v, u⟩, h⟩ := h.ex
  have h := h.star.swap.star
  exact ⟨v, u, (h.front 2 rfl)⟩
theorem rdu_shut {w0 w : World} {ps : List Piece} {g : Nat} {M : List (It Int)} {v u : Value} (h : Own w0 w (blk g (.cells #[v, u] 30) :: slc 3 1 v M.length (nums (M.map (·.at_))) :: slc 3 1 u M.length (nums (M.map (·.x))) :: ps)) : Own w0 w (RDu g M :: ps) :=
  Own.unex (f := fun p : Value × Value => Go.Proofs.Ytnbekiggoejogaa.star (blk g (.cells #[p.1, p.2] 30)) (Go.Proofs.Ytnbekiggoejogaa.star (slc 3 1 p.1 M.length (nums (M.map (·.at_)))) (slc 3 1 p.2 M.length (nums (M.map (·.x)))))) (v, u)
    ((((((h.front 2 rfl).front 2 rfl))).unstar.swap).unstar)

/-- The first of the least time among the first n. -/
def First (M : List (It Int)) (n j : Nat) : Prop := j < n ∧ ∃ m, M[j]? = some m ∧ (∀ i y, i < n → M[i]? = some y → m.at_ ≤ y.at_) ∧ ∀ i y, i < j → M[i]? = some y → m.at_ < y.at_
theorem at_get {M : List (It Int)} {i : Nat} {y : It Int} (h : M[i]? = some y) : (nums (M.map (·.at_)))[i]? = some (.int .i64 y.at_) ∧ (nums (M.map (·.x)))[i]? = some (.int .i64 y.x) := by simp [nums, h]

set_option maxRecDepth 100000 in
set_option maxHeartbeats 1600000 in
theorem rnext_any {w0 w : World} {ps : List Piece} {g : Nat} {M : List (It Int)} (now : Int) (H : Own w0 w (RDu g M :: ps)) (hl : M.length ≤ 100000) :
    Calls Try.prog 10 #[.pointer (some ⟨g, 0, none⟩), .int .i64 now] w (Ret fun v w' =>
      ((∀ m ∈ M, now < m.at_) ∧ v = .tuple #[.int .i64 0, .bool false] ∧ Own w0 w' (RDu g M :: ps)) ∨
      ∃ j m, M[j]? = some m ∧ First M M.length j ∧ m.at_ ≤ now ∧ v = .tuple #[.int .i64 m.x, .bool true] ∧ Own w0 w' (RDu g (M.eraseIdx j) :: ps)) := by
  obtain ⟨v, u, H⟩ := rdu_open H
  obtain ⟨n, hn⟩ : ∃ n, Hid (M.length = n) := ⟨_, rfl⟩
  rw [hn.out] at H hl
  obtain ⟨va, vc, rfl, hv1, hv2⟩ := (H.front 1 rfl).rd.shape
  obtain ⟨ua, uc, rfl, hu1, hu2⟩ := (H.front 2 rfl).rd.shape
  go_enter Try.func10, Try.ntmps10
  go_wp2_with fail
  go_loopw [6, 7] (fun s6 s7 wr => ∃ (i : Nat) (k : Int), i ≤ n ∧ s7 = .int .i64 i ∧ s6 = .int .i64 k ∧ Hid ((i = 0 ∧ k = -1) ∨ ∃ j : Nat, k = j ∧ First M i j) ∧ Own w0 wr (blk g (.cells #[.slice va n vc, .slice ua n uc] 30) :: slc 3 1 (.slice va n vc) n (nums (M.map (·.at_))) :: slc 3 1 (.slice ua n uc) n (nums (M.map (·.x))) :: ps)) (fun _ s7 _ => n - (intOf s7).toNat)
  case atStart => exact ⟨0, -1, Nat.zero_le _, rfl, rfl, Lib.hid (.inl ⟨rfl, rfl⟩), H⟩
  case round =>
    clear H
    obtain ⟨i, k, hi, rfl, rfl, hF, H⟩ := hrel
    have c0 := H.cells
    by_cases hlt : i < n
    · obtain ⟨y, hy⟩ := get_of_lt (l := M) (k := i) (by rw [hn.out]; exact hlt)
      obtain ⟨b, _, e, _⟩ := (H.front 1 rfl).at (by rw [nums_length, List.length_map, hn.out]; omega)
      cases e
      have HY := Lib.hid (at_get hy).1
      have hltI : (i : Int) < (n : Int) := by omega
      rcases hF.out with ⟨rfl, rfl⟩ | ⟨j, rfl, hF1⟩
      · have hf : Hid (First M 1 0) := Lib.hid ⟨by omega, y, hy, fun t z ht hz => (by
            obtain rfl : t = 0 := (by omega)
            rw [hy] at hz
            cases hz
            exact Int.le_refl _), fun t z ht _ => (by omega)⟩
        clear hy
        go_upto_region 5 with (fail)
        clear c0
        refine wp_region_calm (fun w1 => Own w0 w1 (blk g (.cells #[.slice (some ⟨b, 0, none⟩) n vc, .slice ua n uc] 30) :: slc 3 1 (.slice (some ⟨b, 0, none⟩) n vc) n (nums (M.map (·.at_))) :: slc 3 1 (.slice ua n uc) n (nums (M.map (·.x))) :: ps)) 19 (by kernel_rfl) (by kernel_rfl) H.drew ?_
        simp only [List.take_succ_cons, List.take_zero, List.drop_succ_cons, List.drop_zero]
        repeat
          first
          | (refine calm_value (v := ?_) (by decide) rfl (fun σ w1 hS => ?_) ?_
             rotate_left
             · have c0 := hS.cells
               first | (go_simp; rfl) | rfl
             simp only [Act.put, List.setIfInBounds_toArray, List.set_cons_zero, List.set_cons_succ])
          | (refine calm_skip (by decide) rfl ?_
             simp only [Act.put, List.setIfInBounds_toArray, List.set_cons_zero, List.set_cons_succ])
        refine calm_nil ?_
        intro wd HD
        clear H
        go_wp2
        go_round
        case rel => exact ⟨1, 0, by omega, by go_num, rfl, Lib.hid (.inr ⟨0, rfl, hf.out⟩), HD⟩
        case measure => simp [intOf]; omega
      · have HF1 := Lib.hid hF1
        obtain ⟨hj, m, hm, hm1, hm2⟩ := hF1
        have HMJ := Lib.hid (at_get hm).1
        have hjI : (j : Int) < (n : Int) := by omega
        have hj0 : (0 : Int) ≤ (j : Int) := by omega
        have hjB : decide ((j : Int) < 0) = false := by simp
        obtain ⟨t, ht⟩ : ∃ t, decide (y.at_ < m.at_) = t := ⟨_, rfl⟩
        have hnew : Hid (First M (i + 1) (if t then i else j)) := Lib.hid (by
          cases t with
          | true =>
            have hlt2 : y.at_ < m.at_ := by simpa using ht
            refine ⟨by simp, y, hy, fun a z ha hz => ?_, fun a z ha hz => ?_⟩
            · by_cases hai : a = i
              · subst hai; rw [hy] at hz; cases hz; exact Int.le_refl _
              · have := hm1 a z (by omega) hz; omega
            · have := hm1 a z (by simpa using ha) hz; omega
          | false =>
            have hlt2 : ¬ y.at_ < m.at_ := by simpa using ht
            refine ⟨by simp; omega, m, hm, fun a z ha hz => ?_, fun a z ha hz => hm2 a z (by simpa using ha) hz⟩
            by_cases hai : a = i
            · subst hai; rw [hy] at hz; cases hz; omega
            · exact hm1 a z (by omega) hz)
        clear hy hm hm1 hm2 hF
        go_upto_region 5 with (fail)
        clear c0
        refine wp_region_calm (fun w1 => Own w0 w1 (blk g (.cells #[.slice (some ⟨b, 0, none⟩) n vc, .slice ua n uc] 30) :: slc 3 1 (.slice (some ⟨b, 0, none⟩) n vc) n (nums (M.map (·.at_))) :: slc 3 1 (.slice ua n uc) n (nums (M.map (·.x))) :: ps)) 19 (by kernel_rfl) (by kernel_rfl) H.drew ?_
        simp only [List.take_succ_cons, List.take_zero, List.drop_succ_cons, List.drop_zero]
        repeat
          first
          | (refine calm_value (v := ?_) (by decide) rfl (fun σ w1 hS => ?_) ?_
             rotate_left
             · have c0 := hS.cells; have c1 := (hS.front 1 rfl).rd.cell HY.out; have c2 := (hS.front 1 rfl).rd.cell HMJ.out; rw [Nat.zero_add] at c1 c2
               first | (go_simp; rfl) | rfl
             simp only [Act.put, List.setIfInBounds_toArray, List.set_cons_zero, List.set_cons_succ])
          | (refine calm_skip (by decide) rfl ?_
             simp only [Act.put, List.setIfInBounds_toArray, List.set_cons_zero, List.set_cons_succ])
        refine calm_nil ?_
        intro wd HD
        clear H ht
        cases t with
        | true =>
          go_wp2
          go_round
          case rel => exact ⟨i + 1, i, by omega, by go_num, rfl, Lib.hid (.inr ⟨i, rfl, hnew.out⟩), HD⟩
          case measure => simp [intOf]; omega
        | false =>
          go_wp2
          go_round
          case rel => exact ⟨i + 1, j, by omega, by go_num, rfl, Lib.hid (.inr ⟨j, rfl, hnew.out⟩), HD⟩
          case measure => simp [intOf]; omega
    · obtain rfl : i = n := by omega
      rcases hF.out with ⟨rfl, rfl⟩ | ⟨j, rfl, hF1⟩
      · go_wp2
        go_ret2
        exact ⟨_, rfl, .inl ⟨by rw [List.eq_nil_of_length_eq_zero hn.out]; simp, rfl, rdu_shut (by rw [hn.out]; exact H)⟩⟩
      · have HF1 := Lib.hid hF1
        obtain ⟨hj, m, hm, hm1, hm2⟩ := hF1
        obtain ⟨b, _, e, _⟩ := (H.front 1 rfl).at (by rw [nums_length, List.length_map, hn.out]; omega)
        cases e
        obtain ⟨b2, _, e, _⟩ := (H.front 2 rfl).at (by rw [nums_length, List.length_map, hn.out]; omega)
        cases e
        have hjI : (j : Int) < (i : Int) := by omega
        have hj0 : (0 : Int) ≤ (j : Int) := by omega
        have c1 := (H.front 1 rfl).rd.cell (at_get hm).1
        have c2 := (H.front 2 rfl).rd.cell (at_get hm).2
        rw [Nat.zero_add] at c1 c2
        have HMM := Lib.hid hm
        by_cases hnow : now < m.at_
        · have hall : Hid (∀ z ∈ M, now < z.at_) := Lib.hid fun z hz => by
            obtain ⟨t, ht, rfl⟩ := List.getElem_of_mem hz
            have := hm1 t _ (by rw [← hn.out]; exact ht) (List.getElem?_eq_getElem ht)
            omega
          clear hm hm1 hm2
          go_wp2
          go_ret2
          exact ⟨_, rfl, .inl ⟨hall.out, rfl, rdu_shut (by rw [hn.out]; exact H)⟩⟩
        · have hnow2 : m.at_ ≤ now := by omega
          clear hm hm1 hm2 hnow
          have hr1 := (H.front 1 rfl).rd.ofEq (n' := (M.map (·.at_)).length) (by simp [hn.out]) rfl
          have hr2 := (H.front 2 rfl).rd.ofEq (n' := (M.map (·.x)).length) (by simp [hn.out]) rfl
          go_wp2_with fail
          refine (without_any (M.map (·.at_)) j _ hr1 (by simp [hn.out]; omega) (by simp [hn.out]; omega)).mono ?_
          rintro e w2 ⟨v2, rfl, H2⟩
          obtain ⟨a2, q2, rfl, _⟩ := H2.rd.shape
          have hr2 := hr2.old H2
          have H3 : Own w0 w2 _ := H.join H2
          have H4 := (((H3.front 1 rfl).front 2 rfl).drop)
          clear H H3 c0 c1 c2 hr1 H2
          go_wp2_with (refine wpList_store_slice rfl _ _ rfl rfl H4 rfl (by kernel_rfl) (by simp) ?_; clear H4; intro w3 H4; have c0 := H4.cells)
          have hr3 := (H4.front 2 rfl).rd.ofEq (n' := (M.map (·.x)).length) (by simp [hn.out]) rfl
          refine (without_any (M.map (·.x)) j _ hr3 (by simp [hn.out]; omega) (by simp [hn.out]; omega)).mono ?_
          rintro e w4 ⟨v4, rfl, H5⟩
          obtain ⟨a4, q4, rfl, _⟩ := H5.rd.shape
          have H6 : Own w0 w4 _ := H4.join H5
          have H7 := ((((H6.front 2 rfl).front 2 rfl).front 3 rfl).drop)
          clear H4 H5 H6 c0 hr3 hr2
          go_wp2_with (refine wpList_store_slice rfl _ _ rfl rfl H7 rfl (by kernel_rfl) (by simp) ?_; clear H7; intro w5 H7)
          go_ret2
          refine ⟨_, rfl, .inr ⟨j, m, HMM.out, by rw [hn.out]; exact HF1.out, hnow2, rfl, rdu_shut (v := .slice a2 ((M.map (·.at_)).eraseIdx j).length q2) (u := .slice a4 ((M.map (·.x)).eraseIdx j).length q4) ?_⟩⟩
          have e1 : (M.eraseIdx j).map (·.at_) = (M.map (·.at_)).eraseIdx j := by rw [List.eraseIdx_eq_take_drop_succ, List.eraseIdx_eq_take_drop_succ]; simp
          have e2 : (M.eraseIdx j).map (·.x) = (M.map (·.x)).eraseIdx j := by rw [List.eraseIdx_eq_take_drop_succ, List.eraseIdx_eq_take_drop_succ]; simp
          have l1 : ((M.map (·.at_)).eraseIdx j).length = (M.eraseIdx j).length := by rw [← e1, List.length_map]
          have l2 : ((M.map (·.x)).eraseIdx j).length = (M.eraseIdx j).length := by rw [← e2, List.length_map]
          rw [e1, e2, l1, l2]
          rw [l1, l2] at H7
          exact H7
end Go.Proofs.Ytnbekiggoejogaa
