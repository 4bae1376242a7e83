/-
  Queues: the walk of RingOrder.
-/
import Derived.Test.YtnbekiggoejogaaRingT
namespace Go.Proofs.Ytnbekiggoejogaa
open Go.RowKit

/-- The things that were put: each time, by its number. -/
def its (t : List Int) : List (It Int) := t.mapIdx fun i a => ⟨a, i, i⟩
theorem its_get {t : List Int} {i : Nat} {a : Int} (h : t[i]? = some a) : (its t)[i]? = some ⟨a, i, i⟩ := by simp [its, h]
theorem its_snoc (t : List Int) (a : Int) : its (t ++ [a]) = its t ++ [⟨a, t.length, t.length⟩] := by simp [its, List.mapIdx_append]
theorem its_length (t : List Int) : (its t).length = t.length := by simp [its]
theorem mem_its {t : List Int} {m : It Int} (h : m ∈ its t) : ∃ i : Nat, t[i]? = some m.at_ ∧ m.k = i ∧ m.x = i := by
  obtain ⟨i, hi, rfl⟩ := List.getElem_of_mem h
  simp only [its, List.length_mapIdx] at hi
  exact ⟨i, by simp [its, hi], by simp [its], by simp [its]⟩
theorem its_keys (t : List Int) : (its t).Pairwise fun x y => x.k ≠ y.k := by
  rw [List.pairwise_iff_getElem]
  intro i j hi hj hij
  simp only [its, List.getElem_mapIdx]
  omega
/-- Some one is the least. -/
theorem exists_least : ∀ (M : List (It Int)), M ≠ [] → ∃ (j : Nat) (m : It Int), M[j]? = some m ∧ ∀ y ∈ M, ¬ y.lt m := by
  intro M
  induction M with
  | nil => intro h; exact absurd rfl h
  | cons a M ih =>
    intro _
    by_cases hM : M = []
    · subst hM
      exact ⟨0, a, rfl, by intro y hy; simp at hy; subst hy; exact It.irr _⟩
    · obtain ⟨j, m, hj, hm⟩ := ih hM
      by_cases h : a.lt m
      · refine ⟨0, a, rfl, fun y hy => ?_⟩
        rcases List.mem_cons.1 hy with rfl | hy
        · exact It.irr _
        · intro hx
          exact hm y hy (It.trans hx h)
      · refine ⟨j + 1, m, by simpa using hj, fun y hy => ?_⟩
        rcases List.mem_cons.1 hy with rfl | hy
        · exact h
        · exact hm y hy
/-- What is left when some have come: all of it stands behind the last one that came. -/
structure Left (t : List Int) (bef : Int) (M : List (It Int)) : Prop where
  mem : ∀ m ∈ M, m ∈ its t
  keys : M.Pairwise fun x y => x.k ≠ y.k
  bef : bef = -1 ∨ ∃ b : Nat, bef = b ∧ ∃ a, t[b]? = some a ∧ ∀ m ∈ M, (It.mk (X := Int) a b b).lt m
theorem Left.next {t : List Int} {bef : Int} {M : List (It Int)} (h : Left t bef M) {j : Nat} {m : It Int} (hj : M[j]? = some m) (hm : ∀ y ∈ M, ¬ y.lt m) :
    ∃ k : Nat, m.x = k ∧ ∃ a, t[k]? = some a ∧ m.at_ = a ∧ (∀ b : Nat, bef = b → ∀ a', t[b]? = some a' → a' ≤ a ∧ (a' = a → b < k)) ∧ Left t k (M.eraseIdx j) := by
  have hmm := List.mem_of_getElem? hj
  obtain ⟨k, hk, h1, h2⟩ := mem_its (h.mem m hmm)
  refine ⟨k, h2, m.at_, hk, rfl, fun b hb a' ha' => ?_, ?_⟩
  · rcases h.bef with h3 | ⟨b', hb', a, ha, hl⟩
    · omega
    · obtain rfl : b = b' := by omega
      rw [ha] at ha'
      obtain rfl := Option.some.inj ha'
      have := hl m hmm
      unfold It.lt at this
      simp only at this
      omega
  · refine ⟨fun x hx => h.mem x (List.mem_of_mem_eraseIdx hx), h.keys.sublist (List.eraseIdx_sublist M j), .inr ⟨k, rfl, m.at_, hk, fun y hy => ?_⟩⟩
    have hy' := List.mem_of_mem_eraseIdx hy
    have hn := hm y hy'
    have hne : y.k ≠ m.k := by
      have hp := (front_perm M j m hj).pairwise_iff (R := fun x y : It Int => x.k ≠ y.k) (fun h => Ne.symm h)
      have := (List.pairwise_cons.1 (hp.1 h.keys)).1 y hy
      exact Ne.symm this
    unfold It.lt at hn ⊢
    simp only
    omega

set_option maxRecDepth 100000 in
set_option maxHeartbeats 3200000 in
theorem order_any (T : List Int) {v : Value} (w : World) (hr : Rd w 1 v T.length (nums T)) :
    Calls Try.prog 4 #[v] w (Ret fun v w' => v = .bool true ∧ Own w w' []) := by
  obtain ⟨a0, c0, rfl, ha1, ha2⟩ := hr.shape
  go_enter Try.func4, Try.ntmps4
  go_upto_if 12 with (fail)
  go_cut [0] (fun s0 wx => wx = w ∧ ∃ t : List Int, t.length ≤ 200 ∧ Rd w 1 s0 t.length (nums t))
  case first =>
    by_cases h : 200 < T.length
    · have h2 : (200 : Int) < (T.length : Int) := by omega
      go_wp2
      go_meet
      refine ⟨rfl, T.take 200, by simp; omega, ?_⟩
      have := hr.take (k := 200) (by omega)
      simpa [nums, Nat.min_eq_left (Nat.le_of_lt h)] using this
    · have h2 : (T.length : Int) ≤ 200 := by omega
      go_wp2
      go_meet
      exact ⟨rfl, T, by omega, hr⟩
  case rest =>
    clear hr ha1 ha2
    obtain ⟨rfl, t, hl, hr⟩ := hcut
    obtain ⟨a1, c1, rfl, ha1, ha2⟩ := hr.shape
    obtain ⟨n, hn⟩ : ∃ n, Hid (t.length = n) := ⟨_, rfl⟩
    rw [hn.out] at hr hl ha1
    have HR := Lib.hid hr
    clear hr
    rw [hn.out]
    go_upto_region 4 with (fail)
    have H := DueInt.dnew (Own.start wc)
    obtain ⟨g, hg⟩ : ∃ g, wc.heap.size = g := ⟨_, rfl⟩
    rw [hg] at H ⊢
    generalize hwc : World.alloc wc _ = w1 at *
    clear hwc hg
    go_wp2_with fail
    go_loopw [4, 5] (fun s4 i wr => ∃ (k : Nat) (la : Int), k ≤ n ∧ i = .int .i64 k ∧ s4 = .int .i64 la ∧ Hid (∀ a ∈ t.take k, a ≤ la) ∧ Own wc wr [DueInt.Dq g (its (t.take k)) k]) (fun _ i _ => n - (intOf i).toNat)
    case atStart => exact ⟨0, 0, Nat.zero_le _, rfl, rfl, Lib.hid (by simp), H⟩
    case round =>
      clear H
      obtain ⟨k, la, hk, rfl, rfl, hla, H⟩ := hrel
      by_cases hlt : k < n
      · obtain ⟨s, hs⟩ := get_of_lt (l := t) (k := k) (by rw [hn.out]; exact hlt)
        have hnx := Lib.hid (take_at hs)
        obtain ⟨b, o, _, e, _⟩ := HR.out.some (by rw [nums_length, hn.out]; omega)
        cases e
        have HC := Lib.hid (nums_get hs)
        have c0 := (HR.out.old H).cell HC.out
        clear hs
        go_wp2_with fail
        refine (DueInt.dput_any s k H (by rw [its_length, List.length_take]; omega) (by omega)).mono ?_
        rintro e w2 ⟨_, rfl, H2⟩
        clear c0 H
        have e2 : Hid (its (t.take k) ++ [⟨s, k, k⟩] = its (t.take (k + 1))) := Lib.hid (by rw [hnx.out, its_snoc, List.length_take, hn.out, Nat.min_eq_left (Nat.le_of_lt hlt)])
        rw [e2.out] at H2
        have c0 := (HR.out.old H2).cell HC.out
        by_cases hgt : la < s
        · have hla2 : Hid (∀ a ∈ t.take (k + 1), a ≤ s) := Lib.hid (by
            intro a ha
            rw [hnx.out] at ha
            rcases List.mem_append.1 ha with ha | ha
            · have := hla.out a ha; omega
            · simp at ha; omega)
          go_wp2
          go_round
          case rel => exact ⟨k + 1, s, by omega, by go_num, rfl, hla2, H2⟩
          case measure => simp [intOf]; omega
        · have hgt2 : s ≤ la := by omega
          have hla2 : Hid (∀ a ∈ t.take (k + 1), a ≤ la) := Lib.hid (by
            intro a ha
            rw [hnx.out] at ha
            rcases List.mem_append.1 ha with ha | ha
            · exact hla.out a ha
            · simp at ha; omega)
          clear hgt
          go_wp2
          go_round
          case rel => exact ⟨k + 1, la, by omega, by go_num, rfl, hla2, H2⟩
          case measure => simp [intOf]; omega
      · obtain rfl : k = n := by omega
        have htk : Hid (t.take k = t) := Lib.hid (List.take_of_length_le (by rw [hn.out]; exact Nat.le_refl _))
        rw [htk.out] at H
        have hla2 : Hid (∀ a ∈ t, a ≤ la) := Lib.hid (by have := hla.out; rwa [htk.out] at this)
        clear hla
        have hleft : Hid (Left t (-1) (its t)) := Lib.hid ⟨fun m hm => hm, its_keys t, .inl rfl⟩
        have hln : (its t).length = k := by rw [its_length, hn.out]
        go_wp2_with fail
        go_loopw [6, 7] (fun s6 i wr => ∃ (j : Nat) (bef : Int) (M : List (It Int)), j ≤ k ∧ i = .int .i64 j ∧ s6 = .int .i64 bef ∧ j + M.length = k ∧ Hid (Left t bef M) ∧ Own wc wr [DueInt.Dq g M k]) (fun _ i _ => k - (intOf i).toNat)
        case atStart => exact ⟨0, -1, its t, Nat.zero_le _, rfl, rfl, by omega, hleft, H⟩
        case round =>
          clear H hleft hln
          obtain ⟨j, bef, M, hj, rfl, rfl, hM, hL, H⟩ := hrel
          by_cases hlt : j < k
          · obtain ⟨p, m, hp, hm⟩ := exists_least M (by intro h; subst h; simp at hM; omega)
            obtain ⟨x, hx, a, hta, hat, hord, hL2⟩ := hL.out.next hp hm
            have hmem := List.mem_of_getElem? hp
            have hkeys := hL.out.keys
            obtain ⟨b, o, _, e, _⟩ := HR.out.some (by rw [nums_length, hn.out]; omega)
            cases e
            have hnow : m.at_ ≤ la := hla2.out _ (by rw [hat]; exact List.mem_of_getElem? hta)
            have hplen := (List.getElem?_eq_some_iff.1 hp).1
            have HLE : Hid (j + 1 + (M.eraseIdx p).length = k) := Lib.hid (by rw [List.length_eraseIdx, if_pos hplen]; omega)
            go_wp2_with fail
            refine (DueInt.dnext_yes la H hp hm hkeys hnow (by omega)).mono ?_
            rintro e w2 ⟨_, rfl, rfl, H2⟩
            rw [hx]
            have hxk : x < k := by have := (List.getElem?_eq_some_iff.1 hta).1; rw [hn.out] at this; exact this
            have HL2 := Lib.hid hL2
            have HC := Lib.hid (nums_get hta)
            have HO := Lib.hid hord
            have hbef := hL.out.bef
            have HTA := Lib.hid hta
            clear H hL2 hta hord hkeys hmem hm hp hat hnow
            have hxkI : (x : Int) < (k : Int) := by omega
            rcases hbef with rfl | ⟨bb, rfl, a', hta', _⟩
            · go_upto_region 18 with (fail)
              refine wp_region_calm (fun w1 => Own wc w1 [DueInt.Dq g (M.eraseIdx p) k]) 29 (by kernel_rfl) (by kernel_rfl) H2.drew ?_
              simp only [List.take_succ_cons, List.take_zero, List.drop_succ_cons, List.drop_zero]
              repeat
                first
                | (refine calm_value (v := ?_) (by decide) rfl (fun σ w1 hS => ?_) ?_
                   rotate_left
                   · skip
                     first | (go_simp; rfl) | rfl
                   simp only [Act.put, List.setIfInBounds_toArray, List.set_cons_zero, List.set_cons_succ])
                | (refine calm_skip (by decide) rfl ?_
                   simp only [Act.put, List.setIfInBounds_toArray, List.set_cons_zero, List.set_cons_succ])
              refine calm_nil ?_
              intro wd HD
              clear H2
              go_wp2
              go_round
              case rel => exact ⟨j + 1, x, M.eraseIdx p, by omega, by go_num, rfl, HLE.out, HL2, HD⟩
              case measure => simp [intOf]; omega
            · obtain ⟨h1, h2⟩ := HO.out bb rfl a' hta'
              have hbk : bb < k := by have := (List.getElem?_eq_some_iff.1 hta').1; rw [hn.out] at this; exact this
              have hbkI : (bb : Int) < (k : Int) := by omega
              have hb0 : (0 : Int) ≤ (bb : Int) := by omega
              have HB := Lib.hid (nums_get hta')
              have hlt2 : decide (a < a') = false := by simp; omega
              clear hta'
              by_cases he : a = a'
              case' pos =>
                subst he
                have h3 : bb < x := h2 rfl
                have h4 : decide ((x : Int) ≤ (bb : Int)) = false := by simp; omega
                have h5 : decide (x ≤ bb) = false := by simp; omega
              case' neg =>
                have h4 : (a == a') = false := by simp [he]
              all_goals
                clear h1 h2
                go_upto_region 18 with (fail)
                refine wp_region_calm (fun w1 => Own wc w1 [DueInt.Dq g (M.eraseIdx p) k]) 29 (by kernel_rfl) (by kernel_rfl) H2.drew ?_
                simp only [List.take_succ_cons, List.take_zero, List.drop_succ_cons, List.drop_zero]
                repeat
                  first
                  | (refine calm_value (v := ?_) (by decide) rfl (fun σ w1 hS => ?_) ?_
                     rotate_left
                     · have c0 := (HR.out.old hS).cell HC.out; have c1 := (HR.out.old hS).cell HB.out
                       first | (go_simp; rfl) | rfl
                     simp only [Act.put, List.setIfInBounds_toArray, List.set_cons_zero, List.set_cons_succ])
                  | (refine calm_skip (by decide) rfl ?_
                     simp only [Act.put, List.setIfInBounds_toArray, List.set_cons_zero, List.set_cons_succ])
                refine calm_nil ?_
                intro wd HD
                clear H2
                go_wp2
                go_round
                case rel => exact ⟨j + 1, x, M.eraseIdx p, by omega, by go_num, rfl, HLE.out, HL2, HD⟩
                case measure => simp [intOf]; omega
          · obtain rfl : j = k := by omega
            have hM0 : M = [] := List.eq_nil_of_length_eq_zero (by omega)
            subst hM0
            go_wp2_with fail
            refine (DueInt.dlen_any H).mono ?_
            rintro e w2 ⟨rfl, rfl⟩
            go_wp2_with fail
            refine (awake_any _).mono ?_
            rintro e w5 ⟨_, rfl, rfl, H5⟩
            go_wp2
            go_ret
            exact ⟨_, rfl, rfl, (H.join H5).bare⟩
end Go.Proofs.Ytnbekiggoejogaa
