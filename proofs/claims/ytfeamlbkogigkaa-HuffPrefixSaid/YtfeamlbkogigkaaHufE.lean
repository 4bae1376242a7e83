/-
  huff: the walk of Lengths: what comes behind the rows.
-/
import Derived.Test.YtfeamlbkogigkaaHufD
namespace Go.Proofs.Ytfeamlbkogigkaa
open Go.RowKit

/-- Of the text of Lengths, from a region on. -/
noncomputable def lenTail (r : Nat) : Code := ((Try.f11.body.bind (fromR r)).getD .skip)
/-- The pieces of the rows. -/
def rowPs (base : List Coin) (f : Nat → Value) : Nat → List Piece
  | 0 => []
  | k + 1 => slc 65 2 (f k) (rowsF base k).length (rows ce (rowsF base k)) :: rowPs base f k
theorem rowPs_length (base : List Coin) (f : Nat → Value) (k : Nat) : (rowPs base f k).length = k := by
  induction k with
  | zero => rfl
  | succ k ih => rw [rowPs, List.length_cons, ih]
theorem rowPs_get (base : List Coin) (f : Nat → Value) : ∀ k j, j < k → (rowPs base f k)[k - 1 - j]? = some (slc 65 2 (f j) (rowsF base j).length (rows ce (rowsF base j)))
  | 0, j, h => by omega
  | k + 1, j, h => by
    rw [rowPs]
    rcases Nat.lt_or_ge j k with h1 | h1
    · rw [show k + 1 - 1 - j = (k - 1 - j) + 1 by omega, List.getElem?_cons_succ]
      exact rowPs_get base f k j h1
    · have : j = k := by omega
      subst this
      rw [show j + 1 - 1 - j = 0 by omega]
      rfl
theorem rowPs_congr (base : List Coin) (f g : Nat → Value) : ∀ k, (∀ j, j < k → f j = g j) → rowPs base f k = rowPs base g k
  | 0, _ => rfl
  | k + 1, h => by rw [rowPs, rowPs, h k (by omega), rowPs_congr base f g k fun j hj => h j (by omega)]
/-- What is taken, of m rows. -/
def cntM (base : List Coin) : Nat → Nat → List Nat
  | 0, _ => []
  | m + 1, n => (n - npF (rowsF base m) n) :: cntM base m (2 * npF (rowsF base m) n)
theorem cntM_eq (base : List Coin) : ∀ i n, cntM base (i + 1) n = cntF base i n := by
  intro i
  induction i with
  | zero => intro n; rfl
  | succ i ih => intro n; rw [cntM, ih, cntF]
theorem rowsF_len_le (base : List Coin) (i : Nat) : (rowsF base i).length ≤ 2 * base.length := by
  induction i with
  | zero => simp [rowsF]; omega
  | succ i ih => rw [rowsF_length]; omega
theorem bump_bounds {o : List Int} {syms : List Int} (hnd : syms.Nodup) (hin : ∀ x ∈ syms, ∃ s : Nat, x = s ∧ s < o.length) (j s : Nat) : o.getD s 0 ≤ (bumpF o (syms.take j)).getD s 0 ∧ (bumpF o (syms.take j)).getD s 0 ≤ o.getD s 0 + 1 := by
  rw [bumpF_get _ _ _ (fun x hx => hin x (List.mem_of_mem_take hx)), count_nodup (hnd.sublist (List.take_sublist _ _))]
  split <;> omega
theorem nums_set (o : List Int) (s : Nat) (x : Int) : (nums o).set s (.int .i64 x) = nums (o.set s x) := by simp [nums, List.map_set]
theorem bump_take {o syms : List Int} {j : Nat} {x : Int} (hx : syms[j]? = some x) : bumpF o (syms.take (j + 1)) = bump1 (bumpF o (syms.take j)) x := by
  unfold bumpF
  rw [List.take_add_one, hx, List.foldl_append]
  rfl

set_option maxRecDepth 100000 in
set_option maxHeartbeats 12800000 in
theorem len_tail33 {w wr : World} {base : List Coin} {f : Nat → Value} {syms o R : List Int} {L N n rg rc og oc sg sc : Nat} {er : Int} (hb : Hid (Base base)) (hN : Hid (base.length = N)) (h2 : 2 ≤ N) (hN3 : N ≤ 320) (hL1 : 1 ≤ L) (hL2 : L ≤ 15) (hn : n ≤ 320) (ho : Hid (o.length = n)) (hz : Hid (∀ s, o.getD s 0 = 0))
    (hsl : Hid (syms.length = N)) (hnd : Hid syms.Nodup) (hin : Hid (∀ x ∈ syms, ∃ s : Nat, x = s ∧ s < n)) (hpow : Hid (N ≤ 2 ^ L)) (he : er = 0) (hR : Hid (outF syms (cntF base (L - 1) (2 * N - 2)) o = R)) (hbv : ∃ a c, f 0 = .slice a N c)
    (z0 z2 z3 z4 z5 z6 z8 z9 z11 z12 z14 z15 z17 z18 z19 z20 z21 z22 z23 z24 z25 z26 z27 z28 z29 z30 z31 z32 z33 z34 z35 z36 z37 z38 z39 z40 z41 z42 z43 z44 z45 z46 z47 z48 z49 z50 z51 z52 z53 z54 z55 z56 z57 z58 z59 z60 z61 z62 z63 z64 z65 z66 z67 z68 z69 z70 z71 z72 z73 z74 z75 z76 z77 z78 z79 z80 z81 z82 z83 z84 z85 z86 z87 z88 z89 z90 z91 z92 z93 z94 z95 z96 z97 z98 z99 z100 z101 z102 z103 z104 z105 z106 z107 z108 z109 z110 z111 z112 z113 z114 z115 z116 z117 z118 z119 z120 z121 z122 z123 z124 z125 z126 z127 z128 z129 z130 z131 z132 z133 z134 z135 z136 z137 z138 z139 z140 z141 z142 z143 z144 z145 z146 z147 z148 : Value)
    (H : Own w wr (slc 63 1 (.slice (some ⟨rg, 0, none⟩) L rc) L ((List.range L).map f) :: slc 3 1 (.slice (some ⟨og, 0, none⟩) n oc) n (nums o) :: slc 3 1 (.slice (some ⟨sg, 0, none⟩) N sc) N (nums syms) :: rowPs base f L)) :
    Code.wp Try.prog (lenTail 33) (bodyPost Try.prog Try.f11 (Ret fun r w' => ∃ ov, r = .tuple #[ov, .int .i64 er] ∧ Own w w' [slc 3 1 ov n (nums R)]))
      ⟨#[z0, .int .i64 L, z2, z3, z4, z5, z6, .slice (some ⟨sg, 0, none⟩) N sc, z8, z9, .slice (some ⟨og, 0, none⟩) n oc, z11, z12, f 0, z14, z15, .slice (some ⟨rg, 0, none⟩) L rc, z17, z18, z19, z20, z21, z22, z23, z24, z25, z26, z27, z28, z29, z30, z31, z32, z33, z34, z35, z36, z37, z38, z39, z40, z41, z42, z43, z44, z45, z46, z47, z48, z49, z50, z51, z52, z53, z54, z55, z56, z57, z58, z59, z60, z61, z62, z63, z64, z65, z66, z67, z68, z69, z70, z71, z72, z73, z74, z75, z76, z77, z78, z79, z80, z81, z82, z83, z84, z85, z86, z87, z88, z89, z90, z91, z92, z93, z94, z95, z96, z97, z98, z99, z100, z101, z102, z103, z104, z105, z106, z107, z108, z109, z110, z111, z112, z113, z114, z115, z116, z117, z118, z119, z120, z121, z122, z123, z124, z125, z126, z127, z128, z129, z130, z131, z132, z133, z134, z135, z136, z137, z138, z139, z140, z141, z142, z143, z144, z145, z146, z147, z148], []⟩ wr := by
  conv => arg 2; whnf
  dsimp only
  subst he
  obtain ⟨ba, bc, hbv⟩ := hbv
  rw [hbv]
  have hwN : IntKind.i64.wrap (2 * (N : Int)) = 2 * (N : Int) := IntWalk.i64_in _ ⟨by omega, by omega⟩
  have hwN2 : IntKind.i64.wrap (2 * (N : Int) - 2) = ((2 * N - 2 : Nat) : Int) := by rw [IntWalk.i64_in _ ⟨by omega, by omega⟩]; omega
  have hwL : IntKind.i64.wrap ((L : Int) - 1) = (L : Int) - 1 := IntWalk.i64_in _ ⟨by omega, by omega⟩
  have hnn : 2 * N - 2 ≤ (rowsF base (L - 1)).length := by
    have := rowsF_enough (base := base) (L - 1) (by rw [hN.out, show L - 1 + 1 = L by omega]; exact hpow.out)
    have := hN.out
    omega
  have hnn2 : 2 * N - 2 ≤ 640 := by omega
  have hRM : Hid (outF syms (cntM base L (2 * N - 2)) o = R) := Lib.hid (by
    have e := cntM_eq base (L - 1) (2 * N - 2)
    rw [show L - 1 + 1 = L by omega] at e
    rw [e]; exact hR.out)
  obtain ⟨nn, hnnE⟩ : ∃ nn, Hid (2 * N - 2 = nn) := ⟨_, rfl⟩
  rw [hnnE.out] at hwN2 hnn hRM hnn2
  have HNN := Lib.hid hnn
  have hNc : N ≤ sc := by obtain ⟨_, _, e, h1, _⟩ := (H.front 2 rfl).rd.shape; cases e; exact h1
  have hsc : sc ≤ 9223372036854775807 := by obtain ⟨_, _, e, _, h1⟩ := (H.front 2 rfl).rd.shape; cases e; exact h1
  clear hnn hR hpow hbv h2
  go_wp2_with fail
  go_loopw [17, 18] (fun s17 s18 wx => ∃ (m k : Nat) (q : List Int) (t : Nat), s17 = .int .i64 k ∧ s18 = .int .i64 ((m : Int) - 1) ∧ m ≤ L ∧ k ≤ 640 ∧ t + m ≤ 15 ∧ Hid (0 < m → k ≤ (rowsF base (m - 1)).length) ∧ Hid (q.length = n) ∧ Hid (∀ s, 0 ≤ q.getD s 0 ∧ q.getD s 0 ≤ t) ∧ Hid (outF syms (cntM base m k) q = R) ∧ Own w wx (slc 63 1 (.slice (some ⟨rg, 0, none⟩) L rc) L ((List.range L).map f) :: slc 3 1 (.slice (some ⟨og, 0, none⟩) n oc) n (nums q) :: slc 3 1 (.slice (some ⟨sg, 0, none⟩) N sc) N (nums syms) :: rowPs base f L)) (fun _ s18 _ => (intOf s18 + 1).toNat)
  case atStart => exact ⟨L, nn, o, 0, by go_num, by go_num, Nat.le_refl _, hnn2, by omega, Lib.hid (fun _ => HNN.out), ho, Lib.hid (fun s => by rw [hz.out s]; omega), hRM, H⟩
  case round =>
    clear H hRM HNN hwN hwN2 hz ho
    obtain ⟨m, k, q, t, rfl, rfl, hm, hk, ht, hkl, hq, hqb, hqR, H⟩ := hrel
    rcases Nat.eq_zero_or_pos m with h0 | h0
    · subst h0
      have e : Hid (q = R) := Lib.hid hqR.out
      have hm1 : ¬ (0 : Int) ≤ ((0 : Nat) : Int) - 1 := by omega
      clear hqR hkl
      go_wp2
      go_ret2
      refine ⟨_, rfl, _, rfl, ?_⟩
      rw [← e.out]
      obtain ⟨r, hr⟩ : ∃ r, rowPs base f L = r := ⟨_, rfl⟩
      have H2 := (H.front 1 rfl)
      refine ⟨H2.below, ?_⟩
      obtain ⟨_, h, g1, g2, g3, _⟩ := H2
      exact ⟨h, g1, g2, g3, trivial⟩
    · obtain ⟨i, rfl⟩ : ∃ i, m = i + 1 := ⟨m - 1, by omega⟩
      have hiE : ((i + 1 : Nat) : Int) - 1 = (i : Int) := by omega
      rw [hiE]
      have hrd : Rd wr 2 (f i) (rowsF base i).length (rows ce (rowsF base i)) := (H.front (3 + (L - 1 - i)) (by
        rw [Nat.add_comm 3]
        simp only [List.getElem?_cons_succ]
        exact rowPs_get base f L i (by omega))).rd
      have hkl2 : k ≤ (rowsF base i).length := by have := hkl.out (by omega); simpa using this
      have hrl := rowsF_len_le base i
      rw [hN.out] at hrl
      have hs := (ns_singles hb.out i k hkl2).1
      rw [hN.out] at hs
      have hp := npF_le (rowsF base i) k
      have hnext : 0 < i → 2 * npF (rowsF base i) k ≤ (rowsF base (i - 1)).length := fun h => by
        obtain ⟨j, rfl⟩ : ∃ j, i = j + 1 := ⟨i - 1, by omega⟩
        exact np_two hb.out j k
      have hqR2 := hqR.out
      rw [cntM] at hqR2
      have hc := counted_any hrd (by omega) hkl2
      obtain ⟨P, hP⟩ : ∃ P, Hid (npF (rowsF base i) k = P) := ⟨_, rfl⟩
      rw [hP.out] at hs hp hnext hqR2 hc
      obtain ⟨S, hS⟩ : ∃ S, Hid (k - P = S) := ⟨_, rfl⟩
      rw [hS.out] at hs hqR2 hc
      obtain ⟨fa, fc, hfi, hf1, hf2⟩ := hrd.shape
      have c0 : wr.cell? ⟨rg, i, none⟩ = some (f i) := by
        have := H.rd.cell (j := i) (u := f i) (by simp [show i < L by omega])
        simpa using this
      rw [hfi] at c0 hc
      have HC := Lib.hid hc
      have HR2 : Hid (outF syms (cntM base i (2 * P)) (bumpF q (syms.take S)) = R) := Lib.hid hqR2
      have HNX := Lib.hid hnext
      have hiL : (i : Int) < (L : Int) := by omega
      have hLc : L ≤ rc := by obtain ⟨_, _, e, h1, _⟩ := H.rd.shape; cases e; exact h1
      obtain ⟨ln, hln⟩ : ∃ ln, (rowsF base i).length = ln := ⟨_, rfl⟩
      rw [hln] at hrl c0 HC
      clear hc hqR2 hqR hnext hkl hkl2 hrd hfi hln hiE hm h0 hf1 hf2
      go_wp2_with fail
      refine HC.out.mono ?_
      rintro e w1 ⟨_, rfl, rfl, H1⟩
      have H := H.join H1
      clear H1 c0 HC
      have hSN : (S : Int) ≤ (N : Int) := by omega
      have hSc : (S : Int) ≤ (sc : Int) := by omega
      go_wp2_with fail
      go_loopw [135] (fun s135 wx => ∃ j : Nat, s135 = .int .i64 j ∧ j ≤ S ∧ Own w wx (slc 63 1 (.slice (some ⟨rg, 0, none⟩) L rc) L ((List.range L).map f) :: slc 3 1 (.slice (some ⟨og, 0, none⟩) n oc) n (nums (bumpF q (syms.take j))) :: slc 3 1 (.slice (some ⟨sg, 0, none⟩) N sc) N (nums syms) :: rowPs base f L)) (fun s135 _ => S - (intOf s135).toNat)
      case atStart => exact ⟨0, by go_num, by omega, by simpa [bumpF] using H⟩
      case round =>
        clear H
        obtain ⟨j, rfl, hj, H⟩ := hrel
        by_cases hlt : j < S
        · obtain ⟨x, hx⟩ := get_of_lt (l := syms) (k := j) (by have := hsl.out; omega)
          obtain ⟨z, rfl, hz2⟩ := hin.out x (List.mem_of_getElem? hx)
          have hql : (bumpF q (syms.take j)).length = n := by rw [bumpF_length]; exact hq.out
          have hbd := bump_bounds (o := q) hnd.out (fun x hx => by rw [hq.out]; exact hin.out x hx) j z
          have hqz := hqb.out z
          have hst : (nums (bumpF q (syms.take j))).set z (.int .i64 ((bumpF q (syms.take j)).getD z 0 + 1)) = nums (bumpF q (syms.take (j + 1))) := by
            rw [nums_set, bump_take hx]; rfl
          have c2 := (H.front 2 rfl).rd.cell (nums_get hx)
          have c1 := (H.front 1 rfl).rd.cell (j := z) (nums_get (List.getElem?_eq_getElem (by omega)))
          rw [show (bumpF q (syms.take j))[z]'(by omega) = (bumpF q (syms.take j)).getD z 0 by rw [List.getD_eq_getElem?_getD, List.getElem?_eq_getElem (by omega)]; rfl] at c1
          rw [Nat.zero_add] at c1 c2
          have HST := Lib.hid hst
          obtain ⟨y, hy⟩ : ∃ y, Hid ((bumpF q (syms.take j)).getD z 0 = y) := ⟨_, rfl⟩
          rw [hy.out] at hbd c1 HST
          have hfr := (H.front 1 rfl).at (by rw [nums_length, hql]; omega)
          obtain ⟨_, _, he, ho1, ho2, _⟩ := hfr
          cases he
          have hyw : IntKind.i64.wrap (y + 1) = y + 1 := IntWalk.i64_in _ ⟨by omega, by omega⟩
          have hjI : (j : Int) < (S : Int) := by omega
          have hzI : (z : Int) < (n : Int) := by omega
          clear hst hql hx hbd hqz
          go_wp2_with (refine wpList_store_slc rfl _ _ rfl rfl (H.front 1 rfl) (.int .i64 (y + 1)) rfl (by kernel_rfl) (by omega) rfl ?_; clear H c1 c2; intro w2 H; rw [HST.out] at H; replace H := H.swap)
          go_roundw
          case rel => exact ⟨j + 1, by go_num, by omega, H⟩
          case measure => simp [intOf]; omega
        · obtain rfl : j = S := by omega
          have hjI : ¬ (j : Int) < (j : Int) := by omega
          have hql : Hid ((bumpF q (syms.take j)).length = n) := Lib.hid (by rw [bumpF_length]; exact hq.out)
          have hqb2 : Hid (∀ s, 0 ≤ (bumpF q (syms.take j)).getD s 0 ∧ (bumpF q (syms.take j)).getD s 0 ≤ ((t + 1 : Nat) : Int)) := Lib.hid (fun s => by
            have hbd := bump_bounds (o := q) hnd.out (fun x hx => by rw [hq.out]; exact hin.out x hx) j s
            have hqz := hqb.out s
            omega)
          have hPw : IntKind.i64.wrap (2 * (P : Int)) = ((2 * P : Nat) : Int) := by rw [IntWalk.i64_in _ ⟨by omega, by omega⟩]; omega
          have hiw : IntKind.i64.wrap ((i : Int) - 1) = (i : Int) - 1 := IntWalk.i64_in _ ⟨by omega, by omega⟩
          have hP2 : 2 * P ≤ 640 := by
            rcases Nat.eq_zero_or_pos i with h | h
            · have h2 := hP.out
              rw [h, rowsF_zero_np hb.out] at h2
              omega
            · have h2 := HNX.out h
              have h3 := rowsF_len_le base (i - 1)
              have h4 := hN.out
              omega
          generalize bumpF q (syms.take j) = q2 at *
          clear hqb hq
          go_wp2
          go_roundw
          case rel => exact ⟨i, 2 * P, q2, t + 1, by go_num, by go_num, by omega, hP2, by omega, HNX, hql, hqb2, HR2, H⟩
          case measure => simp [intOf]
end Go.Proofs.Ytfeamlbkogigkaa
