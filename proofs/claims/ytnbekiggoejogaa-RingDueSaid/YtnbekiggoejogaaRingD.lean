/-
  Queues: the walk of RingDue.
-/
import Derived.Test.YtnbekiggoejogaaRingR
namespace Go.Proofs.Ytnbekiggoejogaa
open Go.RowKit

def wrow (d : Bool × Int) : List Value := [.bool d.1, .int .i64 d.2]
theorem wrow_length (d : Bool × Int) : (wrow d).length = 2 := rfl
/-- What waits, in the order in which it was put. -/
def Ordered (M : List (It Int)) (k : Nat) : Prop := (M.Pairwise fun x y => x.k < y.k) ∧ ∀ m ∈ M, m.k < (k : Int)
theorem Ordered.keys {M : List (It Int)} {k : Nat} (h : Ordered M k) : M.Pairwise fun x y => x.k ≠ y.k := h.1.imp fun h => by omega
theorem Ordered.put {M : List (It Int)} {k : Nat} (h : Ordered M k) (a x : Int) : Ordered (M ++ [⟨a, k, x⟩]) (k + 1) := by
  refine ⟨List.pairwise_append.2 ⟨h.1, by simp, fun m hm y hy => ?_⟩, fun m hm => ?_⟩
  · simp at hy; subst hy; exact h.2 m hm
  · rcases List.mem_append.1 hm with hm | hm
    · have := h.2 m hm; omega
    · simp at hm; subst hm; simp only; omega
theorem Ordered.take {M : List (It Int)} {k : Nat} (h : Ordered M k) (j : Nat) : Ordered (M.eraseIdx j) k :=
  ⟨h.1.sublist (List.eraseIdx_sublist M j), fun m hm => h.2 m (List.mem_of_mem_eraseIdx hm)⟩
theorem Ordered.least {M : List (It Int)} {k j : Nat} {m : It Int} (h : Ordered M k) (hj : M[j]? = some m) (hf : First M M.length j) : ∀ y ∈ M, ¬ y.lt m := by
  obtain ⟨hjl, m', hm', h1, h2⟩ := hf
  rw [hj] at hm'
  obtain rfl := Option.some.inj hm'
  intro y hy
  obtain ⟨i, hi, rfl⟩ := List.getElem_of_mem hy
  have a1 := h1 i _ hi (List.getElem?_eq_getElem hi)
  unfold It.lt
  rcases Nat.lt_trichotomy i j with hij | hij | hij
  · have a2 := h2 i _ hij (List.getElem?_eq_getElem hi)
    omega
  · subst hij
    rw [List.getElem?_eq_getElem hi] at hj
    rw [Option.some.inj hj]
    omega
  · have a3 := List.pairwise_iff_getElem.1 h.1 j i hjl hi hij
    rw [List.getElem?_eq_getElem hjl] at hj
    rw [Option.some.inj hj] at a3
    omega

theorem exists_first : ∀ (M : List (It Int)), M ≠ [] → ∃ j, First M M.length j := by
  intro M
  induction M with
  | nil => intro h; exact absurd rfl h
  | cons a M ih =>
    intro _
    by_cases hM : M = []
    · subst hM
      exact ⟨0, by simp, a, rfl, fun i y hi hy => (by
        obtain rfl : i = 0 := (by simp at hi; omega)
        simp at hy; subst hy; exact Int.le_refl _), fun i y hi _ => (by omega)⟩
    · obtain ⟨j, hj, m, hm, h1, h2⟩ := ih hM
      by_cases h : a.at_ ≤ m.at_
      · refine ⟨0, by simp, a, rfl, fun i y hi hy => ?_, fun i y hi _ => (by omega)⟩
        cases i with
        | zero => simp at hy; subst hy; exact Int.le_refl _
        | succ i => have := h1 i y (by simpa using hi) (by simpa using hy); omega
      · refine ⟨j + 1, by simpa using hj, m, by simpa using hm, fun i y hi hy => ?_, fun i y hi hy => ?_⟩
        · cases i with
          | zero => simp at hy; subst hy; omega
          | succ i => exact h1 i y (by simpa using hi) (by simpa using hy)
        · cases i with
          | zero => simp at hy; subst hy; omega
          | succ i => exact h2 i y (by omega) (by simpa using hy)
theorem first_one {M : List (It Int)} {n j j' : Nat} (h : First M n j') (h' : First M n j) : j' = j := by
  obtain ⟨a1, m, a2, a3, a4⟩ := h
  obtain ⟨b1, m', b2, b3, b4⟩ := h'
  rcases Nat.lt_trichotomy j' j with hlt | hlt | hlt
  · have := b4 j' m hlt a2
    have := a3 j m' b1 b2
    omega
  · exact hlt
  · have := a4 j m' hlt b2
    have := b3 j' m a1 a2
    omega

set_option maxRecDepth 100000 in
set_option maxHeartbeats 3200000 in
theorem due_any (ds : List (Bool × Int)) {v : Value} (w : World) (hr : Rd w 2 v ds.length (rows wrow ds)) :
    Calls Try.prog 3 #[v] w (Ret fun v w' => v = .bool true ∧ Own w w' []) := by
  obtain ⟨n0, hlen⟩ : ∃ n, Hid (ds.length = n) := ⟨_, rfl⟩
  rw [hlen.out] at hr
  have HR := Lib.hid hr
  obtain ⟨a0, cap0, rfl, hn1, hn2⟩ := hr.shape
  clear hr
  go_enter Try.func3, Try.ntmps3
  go_upto_region 2 with (fail)
  have H := DueInt.dnew (Own.start w)
  obtain ⟨gd, hgd⟩ : ∃ g, w.heap.size = g := ⟨_, rfl⟩
  rw [hgd] at H ⊢
  generalize hw1 : World.alloc w _ = w1 at *
  clear hw1 hgd
  go_upto_region 3 with (fail)
  have H2 : Own w (w1.alloc (.cells #[.slice none 0 0, .slice none 0 0] 30)) (RDu w1.heap.size [] :: _) := rdu_shut (M := []) (v := .slice none 0 0) (u := .slice none 0 0) (((((H.alloc (.cells #[.slice none 0 0, .slice none 0 0] 30)).nil 3 1).nil 3 1).front 2 rfl))
  obtain ⟨gr, hgr⟩ : ∃ g, w1.heap.size = g := ⟨_, rfl⟩
  rw [hgr] at H2 ⊢
  generalize hw2 : World.alloc w1 _ = w2 at *
  clear hw2 hgr H
  have H := H2.swap
  clear H2
  go_wp2_with fail
  go_loopw [5] (fun i wx => ∃ (k kp : Nat) (M : List (It Int)), k ≤ n0 ∧ k ≤ 200 ∧ i = .int .i64 k ∧ M.length ≤ k ∧ kp ≤ k ∧ Hid (Ordered M kp) ∧ Own w wx [DueInt.Dq gd M kp, RDu gr M]) (fun i _ => 200 - (intOf i).toNat)
  case atStart => exact ⟨0, 0, [], Nat.zero_le _, Nat.zero_le _, rfl, Nat.zero_le _, Nat.zero_le _, Lib.hid ⟨List.Pairwise.nil, by simp⟩, H⟩
  case round =>
    clear H
    obtain ⟨k, kp, M, hk, hk2, rfl, hMl, hkp, hO, H⟩ := hrel
    by_cases hlt : k < n0 ∧ k < 200
    · obtain ⟨hlt, hl4⟩ := hlt
      obtain ⟨d, hd⟩ := get_of_lt (l := ds) (k := k) (by rw [hlen.out]; exact hlt)
      obtain ⟨b, o, _, e, _⟩ := HR.out.some (by rw [rows_length wrow wrow_length, hlen.out]; omega)
      cases e
      have c0 := (HR.out.old H).cell ((rows_get wrow wrow_length hd 0 (by omega)).trans rfl)
      have c1 := (HR.out.old H).cell ((rows_get wrow wrow_length hd 1 (by omega)).trans rfl)
      rw [← Nat.add_assoc] at c1
      rw [Nat.add_zero] at c0
      clear hd
      obtain ⟨pt, at1⟩ := d
      simp only at c0 c1
      go_upto_region 7 with (fail)
      replace H := H.alloc (.cells #[.bool pt, .int .i64 at1] 32)
      obtain ⟨gx, hgx⟩ : ∃ g, wr.heap.size = g := ⟨_, rfl⟩
      rw [hgx] at H ⊢
      generalize World.alloc wr _ = wx at *
      clear hgx c0 c1
      have c0 := H.cells
      go_upto_if 30 with (fail)
      go_cut [] (fun wx => ∃ (kq : Nat) (M : List (It Int)), M.length ≤ k + 1 ∧ kq ≤ k + 1 ∧ Hid (Ordered M kq) ∧ Own w wx [DueInt.Dq gd M kq, RDu gr M])
      case first =>
        cases pt with
        | true =>
          go_wp2_with fail
          refine (DueInt.dput_any at1 k (H.front 1 rfl) (by omega) (by omega)).mono ?_
          rintro e w3 ⟨_, rfl, H3⟩
          have hO2 : Hid (Ordered (M ++ [⟨at1, kp, k⟩]) (kp + 1)) := Lib.hid (hO.out.put at1 k)
          clear H c0
          obtain ⟨v1, u1, H⟩ := rdu_open (H3.front 2 rfl)
          clear H3
          obtain ⟨va, vc, rfl, hv1, hv2⟩ := (H.front 1 rfl).rd.shape
          obtain ⟨ua, uc, rfl, hu1, hu2⟩ := (H.front 2 rfl).rd.shape
          obtain ⟨n, hn⟩ : ∃ n, Hid (M.length = n) := ⟨_, rfl⟩
          rw [hn.out] at H hMl
          have H : Own w w3 (blk gr (.cells #[.slice va n vc, .slice ua n uc] 30) :: slc 3 1 (.slice va n vc) n (nums (M.map (·.at_))) :: slc 3 1 (.slice ua n uc) n (nums (M.map (·.x))) :: [DueInt.Dq gd (M ++ [(⟨at1, kp, k⟩ : It Int)]) (kp + 1), blk gx (.cells #[.bool true, .int .i64 at1] 32)]) := H
          go_upto_region 9 with (fail)
          refine wp_region_pres (fun σ w1 => Own w w1 (newR (.cells #[.int .i64 at1] 3) 1 (σ 7) ++ (blk gr (.cells #[.slice va n vc, .slice ua n uc] 30) :: slc 3 1 (.slice va n vc) n (nums (M.map (·.at_))) :: slc 3 1 (.slice ua n uc) n (nums (M.map (·.x))) :: [DueInt.Dq gd (M ++ [(⟨at1, kp, k⟩ : It Int)]) (kp + 1), blk gx (.cells #[.bool true, .int .i64 at1] 32)]))) 8 [7] [0] (by kernel_rfl) (by kernel_rfl) (by kernel_rfl) (by kernel_rfl) (fun _ _ d _ _ h => by cases d <;> exact h) ⟨_, _, rfl, fun w => (by first | rfl | (go_simp; rfl)), rfl⟩ H.drew ?_
          simp only [List.take_succ_cons, List.take_zero, List.drop_succ_cons, List.drop_zero]
          repeat
            first
            | (refine calm_value (v := ?_) (by decide) rfl (fun σ w1 hS => ?_) ?_
               rotate_left
               · have c0 := hS.skip.cells; have c1 := (hS.skip.front 4 rfl).cells
                 first | (go_simp; rfl) | rfl
               simp only [Act.put, List.setIfInBounds_toArray, List.set_cons_zero, List.set_cons_succ])
            | (refine calm_skip (by decide) rfl ?_
               simp only [Act.put, List.setIfInBounds_toArray, List.set_cons_zero, List.set_cons_succ])
          refine calm_row (by decide) (fun w1 => (by go_simp)) ?_
          refine calm_nil ?_
          intro σ wd hσ HD
          obtain ⟨vn, hvn⟩ := Option.isSome_iff_exists.1 (hσ 7 (by decide))
          rw [hvn] at HD
          obtain ⟨g2, rfl, HN⟩ := HD.newr
          clear HD H
          simp only [putNew, List.foldl_cons, List.foldl_nil, hvn]
          simp only [Act.put, List.setIfInBounds_toArray, List.set_cons_zero, List.set_cons_succ, List.getElem?_cons_succ, List.getElem?_cons_zero, Option.bind_some, Option.getD_some]
          have hrow := (HN.slc_mk (xs := [.int .i64 at1]) (n := 1) (size := 1) rfl (Nat.le_refl _) (by decide) rfl rfl).rd
          have H := HN.drop
          clear HN
          go_upto_region 10 with (first
            | (at_builtin; refine wpList_append_sep rfl _ _ rfl Try.underlying28 RingInt.info rfl (by decide) rfl (H.front 1 rfl) hrow (by simp [Value.oneCell']) (by omega) (by omega) ?_; clear H hrow; intro v' w' H; replace H := H.swap; obtain ⟨va2, vc2, rfl, hv21, hv22⟩ := (H.front 1 rfl).rd.shape)
            | (refine wpList_store_slice rfl _ _ rfl rfl H rfl (by kernel_rfl) (by simp) ?_; clear H; intro w4 H))
          have H : Own w w4 (blk gr (.cells #[.slice va2 (n + 1) vc2, .slice ua n uc] 30) :: slc 3 1 (.slice va2 (n + 1) vc2) (n + 1) (nums (M.map (·.at_)) ++ [.int .i64 at1]) :: slc 3 1 (.slice ua n uc) n (nums (M.map (·.x))) :: [DueInt.Dq gd (M ++ [(⟨at1, kp, k⟩ : It Int)]) (kp + 1), blk gx (.cells #[.bool true, .int .i64 at1] 32)]) := H
          have c0 := H.cells
          go_wp2_with (first
            | (refine wpList_append_one rfl _ _ rfl Try.underlying28 RingInt.info rfl (by decide) rfl (H.front 2 rfl) (news := [.int .i64 k]) rfl rfl rfl (by intro u hu; simp at hu; subst hu; rfl) (by omega) (by omega) ?_; clear H c0; intro v' w' H; replace H := (((H.front 2 rfl).front 2 rfl)); obtain ⟨ua2, uc2, rfl, hu21, hu22⟩ := (H.front 2 rfl).rd.shape)
            | (refine wpList_store_slice rfl _ _ rfl rfl H rfl (by kernel_rfl) (by simp) ?_; clear H; intro w5 H))
          go_meet
          refine ⟨kp + 1, M ++ [⟨at1, kp, k⟩], by simp [hn.out]; omega, by omega, hO2, ?_⟩
          have H7 : Own w w5 [RDu gr (M ++ [(⟨at1, kp, k⟩ : It Int)]), DueInt.Dq gd (M ++ [(⟨at1, kp, k⟩ : It Int)]) (kp + 1), blk gx (.cells #[.bool true, .int .i64 at1] 32)] := rdu_shut (v := .slice va2 (n + 1) vc2) (u := .slice ua2 (n + 1) uc2) (by
            have e1 : nums ((M ++ [⟨at1, kp, k⟩] : List (It Int)).map (·.at_)) = nums (M.map (·.at_)) ++ [.int .i64 at1] := by simp [nums]
            have e2 : nums ((M ++ [⟨at1, kp, k⟩] : List (It Int)).map (·.x)) = nums (M.map (·.x)) ++ [.int .i64 k] := by simp [nums]
            rw [e1, e2, List.length_append, hn.out]
            exact H)
          exact (((H7.front 1 rfl).front 2 rfl).drop)
        | false =>
          by_cases hall : ∀ m ∈ M, at1 < m.at_
          · have HALL := Lib.hid hall
            clear hall
            go_wp2_with fail
            refine (DueInt.dnext_no at1 (H.front 1 rfl) HALL.out (by omega)).mono ?_
            rintro e w3 ⟨_, rfl, rfl, H3⟩
            clear H c0
            have c0 := (H3.front 1 rfl).cells
            go_wp2_with fail
            refine (rnext_any at1 (H3.front 2 rfl) (by omega)).mono ?_
            rintro e w4 ⟨_, rfl, ⟨_, rfl, H4⟩ | ⟨j, m, hm, _, hn, _, _⟩⟩
            · clear H3 c0
              go_wp2
              go_meet
              exact ⟨kp, M, by omega, by omega, hO, (((H4.front 1 rfl).front 2 rfl).drop)⟩
            · have := HALL.out m (List.mem_of_getElem? hm)
              omega
          · obtain ⟨j, hF⟩ := exists_first M (by intro h; subst h; exact hall (by simp))
            have hF0 := hF
            obtain ⟨hjl, m, hm, hm1, hm2⟩ := hF0
            have hnow : m.at_ ≤ at1 := by
              rcases Classical.em (m.at_ ≤ at1) with h | h
              · exact h
              · exfalso
                refine hall fun y hy => ?_
                obtain ⟨i, hi, rfl⟩ := List.getElem_of_mem hy
                have := hm1 i _ hi (List.getElem?_eq_getElem hi)
                omega
            have HF := Lib.hid hF
            have HMM := Lib.hid hm
            have HNOW := Lib.hid hnow
            have hO2 : Hid (Ordered (M.eraseIdx j) kp) := Lib.hid (hO.out.take j)
            have hle : (M.eraseIdx j).length ≤ k + 1 := by rw [List.length_eraseIdx, if_pos hjl]; omega
            clear hall hF hm hm1 hm2 hnow
            go_wp2_with fail
            refine (DueInt.dnext_yes at1 (H.front 1 rfl) HMM.out (hO.out.least HMM.out HF.out) hO.out.keys HNOW.out (by omega)).mono ?_
            rintro e w3 ⟨_, rfl, rfl, H3⟩
            clear H c0
            have c0 := (H3.front 1 rfl).cells
            go_wp2_with fail
            refine (rnext_any at1 (H3.front 2 rfl) (by omega)).mono ?_
            rintro e w4 ⟨_, rfl, ⟨hno, _, _⟩ | ⟨j', m', hm', hF', hn', rfl, H4⟩⟩
            · have := hno m (List.mem_of_getElem? HMM.out)
              have := HNOW.out
              omega
            · obtain rfl := first_one hF' HF.out
              have e : m' = m := by have := HMM.out; rw [hm'] at this; exact Option.some.inj this
              subst e
              clear H3 c0 hm' hF' hn'
              go_wp2
              go_meet
              exact ⟨kp, M.eraseIdx j', hle, by omega, hO2, (((H4.front 1 rfl).front 2 rfl).drop)⟩
      case rest =>
        clear H c0 hMl hkp hO
        obtain ⟨kq, M, hMl, hkp, hO, H⟩ := hcut
        obtain ⟨v1, u1, H⟩ := rdu_open H.swap
        obtain ⟨n, hn⟩ : ∃ n, Hid (M.length = n) := ⟨_, rfl⟩
        have hMn : M.length ≤ k + 1 := hMl
        rw [hn.out] at H hMl
        obtain ⟨va, vc, rfl, hv1, hv2⟩ := (H.front 1 rfl).rd.shape
        go_upto_region 15 with (fail)
        refine wp_region_calm (fun w1 => Own w w1 [blk gr (.cells #[.slice va n vc, u1] 30), slc 3 1 (.slice va n vc) n (nums (M.map (·.at_))), slc 3 1 u1 n (nums (M.map (·.x))), DueInt.Dq gd M kq]) 8 (by kernel_rfl) (by kernel_rfl) H.drew ?_
        simp only [List.take_succ_cons, List.take_zero, List.drop_succ_cons, List.drop_zero]
        repeat
          first
          | (refine calm_value (v := ?_) (by decide) rfl (fun σ w1 hS => ?_) ?_
             rotate_left
             · have c0 := hS.cells
               first | (go_simp; rfl) | rfl
             simp only [Act.put, List.setIfInBounds_toArray, List.set_cons_zero, List.set_cons_succ])
          | (refine calm_skip (by decide) rfl ?_
             simp only [Act.put, List.setIfInBounds_toArray, List.set_cons_zero, List.set_cons_succ])
        refine calm_call (v := .int .i64 n) (by decide) rfl (fun w1 => (by go_simp; first | exact ⟨rfl, rfl⟩ | rfl)) (fun σ w1 hS => ?_) ?_
        · refine (DueInt.dlen_any (hS.front 3 rfl)).mono ?_
          rintro e w2 ⟨rfl, rfl⟩
          exact ⟨by rw [hn.out], hS⟩
        simp only [Act.put, List.setIfInBounds_toArray, List.set_cons_zero, List.set_cons_succ]
        repeat
          first
          | (refine calm_value (v := ?_) (by decide) rfl (fun σ w1 hS => ?_) ?_
             rotate_left
             · have c0 := hS.cells
               first | (go_simp; rfl) | rfl
             simp only [Act.put, List.setIfInBounds_toArray, List.set_cons_zero, List.set_cons_succ])
          | (refine calm_skip (by decide) rfl ?_
             simp only [Act.put, List.setIfInBounds_toArray, List.set_cons_zero, List.set_cons_succ])
        refine calm_nil ?_
        intro wd HD
        clear H
        go_wp2
        go_round
        case rel => exact ⟨k + 1, kq, M, by omega, by omega, by go_num, by rw [hn.out]; omega, hkp, hO, by
          have H8 : Own w wd [RDu gr M, DueInt.Dq gd M kq] := rdu_shut (v := .slice va n vc) (u := u1) (by rw [hn.out]; exact HD)
          exact H8.swap⟩
        case measure => simp [intOf]; omega
    · go_wp2_with fail
      all_goals
        refine (awake_any _).mono ?_
        rintro e w5 ⟨_, rfl, rfl, H5⟩
        go_wp2
        go_ret
        exact ⟨_, rfl, rfl, (H.join H5).bare⟩
end Go.Proofs.Ytnbekiggoejogaa
