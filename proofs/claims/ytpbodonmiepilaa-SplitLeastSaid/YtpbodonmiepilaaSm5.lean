/-
  Texts of this claim, one behind the other: huff; huff; huff; flate; flate; A map of the call's own whose elements are ints (0 where there is none); lz; lz; A look-up in a map of ints, in a region that draws its order; lz; lz; lz; Bits; Bits; flate; flate; Bits; Bits; flate; flate; inflate; inflate; split; Bits; split; split; split; Two slices of ints, held against one another; split; split.
-/
import Derived.Test.YtpbodonmiepilaaSm4
import Derived.Deep.OwnRows
import Derived.Maps.Own
import Derived.Maps.OwnOps
import Derived.Maps.Views
import Derived.ProofKit
import Derived.DeepKeys4
import Derived.Test.YtpbodonmiepilaaRows
import Derived.Deep.DeepCutAuto
import Derived.Deep.CutBlock
import Derived.Deep.LoopGhost
import Derived.WalkLawsBesides
import Derived.WalkSpells
import Derived.BigQuiet
import Derived.Deep.QuietTactic
import Derived.Carry
set_option linter.unusedVariables false
/- huff: the walk of Lengths: what comes behind the rows. -/
namespace Go.Proofs.Ytpbodonmiepilaa
open Go.RowKit

/-- Of the text of Lengths, from a region on. -/
noncomputable def lenTail (r : Nat) : Code := ((Try.f58.body.bind (fromR r)).getD .skip)
/-- The pieces of the rows. -/
def rowPs (base : List Coin) (f : Nat → Value) : Nat → List Piece
  | 0 => []
  | k + 1 => slc 129 2 (f k) (rowsF base k).length (rows ce (rowsF base k)) :: rowPs base f k
theorem rowPs_get (base : List Coin) (f : Nat → Value) : ∀ k j, j < k → (rowPs base f k)[k - 1 - j]? = some (slc 129 2 (f j) (rowsF base j).length (rows ce (rowsF base j)))
  | 0, j, h => by omega
  | k + 1, j, h => by
    rw [rowPs]
    rcases Nat.lt_or_ge j k with h1 | h1
    · rw [show k + 1 - 1 - j = (k - 1 - j) + 1 by omega, List.getElem?_cons_succ]
      exact rowPs_get base f k j h1
    · have : j = k := by omega
      subst this
      rw [show j + 1 - 1 - j = 0 by omega]
      rfl
theorem rowPs_congr (base : List Coin) (f g : Nat → Value) : ∀ k, (∀ j, j < k → f j = g j) → rowPs base f k = rowPs base g k
  | 0, _ => rfl
  | k + 1, h => by rw [rowPs, rowPs, h k (by omega), rowPs_congr base f g k fun j hj => h j (by omega)]
/-- What is taken, of m rows. -/
def cntM (base : List Coin) : Nat → Nat → List Nat
  | 0, _ => []
  | m + 1, n => (n - npF (rowsF base m) n) :: cntM base m (2 * npF (rowsF base m) n)
theorem cntM_eq (base : List Coin) : ∀ i n, cntM base (i + 1) n = cntF base i n := by
  intro i
  induction i with
  | zero => intro n; rfl
  | succ i ih => intro n; rw [cntM, ih, cntF]
theorem rowsF_len_le (base : List Coin) (i : Nat) : (rowsF base i).length ≤ 2 * base.length := by
  induction i with
  | zero => simp [rowsF]; omega
  | succ i ih => rw [rowsF_length]; omega
theorem bump_bounds {o : List Int} {syms : List Int} (hnd : syms.Nodup) (hin : ∀ x ∈ syms, ∃ s : Nat, x = s ∧ s < o.length) (j s : Nat) : o.getD s 0 ≤ (bumpF o (syms.take j)).getD s 0 ∧ (bumpF o (syms.take j)).getD s 0 ≤ o.getD s 0 + 1 := by
  rw [bumpF_get _ _ _ (fun x hx => hin x (List.mem_of_mem_take hx)), count_nodup (hnd.sublist (List.take_sublist _ _))]
  split <;> omega

set_option maxRecDepth 100000 in
set_option maxHeartbeats 12800000 in
theorem len_tail33 {w wr : World} {base : List Coin} {f : Nat → Value} {syms o R : List Int} {L N n rg rc og oc sg sc : Nat} {er : Int} (hb : Hid (Base base)) (hN : Hid (base.length = N)) (h2 : 2 ≤ N) (hN3 : N ≤ 320) (hL1 : 1 ≤ L) (hL2 : L ≤ 15) (hn : n ≤ 320) (ho : Hid (o.length = n)) (hz : Hid (∀ s, o.getD s 0 = 0))
    (hsl : Hid (syms.length = N)) (hnd : Hid syms.Nodup) (hin : Hid (∀ x ∈ syms, ∃ s : Nat, x = s ∧ s < n)) (hpow : Hid (N ≤ 2 ^ L)) (he : er = 0) (hR : Hid (outF syms (cntF base (L - 1) (2 * N - 2)) o = R)) (hbv : ∃ a c, f 0 = .slice a N c)
    (z0 z2 z3 z4 z5 z6 z8 z9 z11 z12 z14 z15 z17 z18 z19 z20 z21 z22 z23 z24 z25 z26 z27 z28 z29 z30 z31 z32 z33 z34 z35 z36 z37 z38 z39 z40 z41 z42 z43 z44 z45 z46 z47 z48 z49 z50 z51 z52 z53 z54 z55 z56 z57 z58 z59 z60 z61 z62 z63 z64 z65 z66 z67 z68 z69 z70 z71 z72 z73 z74 z75 z76 z77 z78 z79 z80 z81 z82 z83 z84 z85 z86 z87 z88 z89 z90 z91 z92 z93 z94 z95 z96 z97 z98 z99 z100 z101 z102 z103 z104 z105 z106 z107 z108 z109 z110 z111 z112 z113 z114 z115 z116 z117 z118 z119 z120 z121 z122 z123 z124 z125 z126 z127 z128 z129 z130 z131 z132 z133 z134 z135 z136 z137 z138 z139 z140 z141 z142 z143 z144 z145 z146 z147 z148 : Value)
    (H : Own w wr (slc 127 1 (.slice (some ⟨rg, 0, none⟩) L rc) L ((List.range L).map f) :: slc 3 1 (.slice (some ⟨og, 0, none⟩) n oc) n (nums o) :: slc 3 1 (.slice (some ⟨sg, 0, none⟩) N sc) N (nums syms) :: rowPs base f L)) :
    Code.wp Try.prog (lenTail 33) (bodyPost Try.prog Try.f58 (Ret fun r w' => ∃ ov, r = .tuple #[ov, .int .i64 er] ∧ Own w w' [slc 3 1 ov n (nums R)]))
      ⟨#[z0, .int .i64 L, z2, z3, z4, z5, z6, .slice (some ⟨sg, 0, none⟩) N sc, z8, z9, .slice (some ⟨og, 0, none⟩) n oc, z11, z12, f 0, z14, z15, .slice (some ⟨rg, 0, none⟩) L rc, z17, z18, z19, z20, z21, z22, z23, z24, z25, z26, z27, z28, z29, z30, z31, z32, z33, z34, z35, z36, z37, z38, z39, z40, z41, z42, z43, z44, z45, z46, z47, z48, z49, z50, z51, z52, z53, z54, z55, z56, z57, z58, z59, z60, z61, z62, z63, z64, z65, z66, z67, z68, z69, z70, z71, z72, z73, z74, z75, z76, z77, z78, z79, z80, z81, z82, z83, z84, z85, z86, z87, z88, z89, z90, z91, z92, z93, z94, z95, z96, z97, z98, z99, z100, z101, z102, z103, z104, z105, z106, z107, z108, z109, z110, z111, z112, z113, z114, z115, z116, z117, z118, z119, z120, z121, z122, z123, z124, z125, z126, z127, z128, z129, z130, z131, z132, z133, z134, z135, z136, z137, z138, z139, z140, z141, z142, z143, z144, z145, z146, z147, z148], []⟩ wr := by
  conv => arg 2; whnf
  dsimp only
  subst he
  obtain ⟨ba, bc, hbv⟩ := hbv
  rw [hbv]
  have hwN : IntKind.i64.wrap (2 * (N : Int)) = 2 * (N : Int) := IntWalk.i64_in _ ⟨by omega, by omega⟩
  have hwN2 : IntKind.i64.wrap (2 * (N : Int) - 2) = ((2 * N - 2 : Nat) : Int) := by rw [IntWalk.i64_in _ ⟨by omega, by omega⟩]; omega
  have hwL : IntKind.i64.wrap ((L : Int) - 1) = (L : Int) - 1 := IntWalk.i64_in _ ⟨by omega, by omega⟩
  have hnn : 2 * N - 2 ≤ (rowsF base (L - 1)).length := by
    have := rowsF_enough (base := base) (L - 1) (by rw [hN.out, show L - 1 + 1 = L by omega]; exact hpow.out)
    have := hN.out
    omega
  have hnn2 : 2 * N - 2 ≤ 640 := by omega
  have hRM : Hid (outF syms (cntM base L (2 * N - 2)) o = R) := Lib.hid (by
    have e := cntM_eq base (L - 1) (2 * N - 2)
    rw [show L - 1 + 1 = L by omega] at e
    rw [e]; exact hR.out)
  obtain ⟨nn, hnnE⟩ : ∃ nn, Hid (2 * N - 2 = nn) := ⟨_, rfl⟩
  rw [hnnE.out] at hwN2 hnn hRM hnn2
  have HNN := Lib.hid hnn
  have hNc : N ≤ sc := by obtain ⟨_, _, e, h1, _⟩ := (H.front 2 rfl).rd.shape; cases e; exact h1
  have hsc : sc ≤ 9223372036854775807 := by obtain ⟨_, _, e, _, h1⟩ := (H.front 2 rfl).rd.shape; cases e; exact h1
  clear hnn hR hpow hbv h2
  go_wp2_with fail
  go_loopw [17, 18] (fun s17 s18 wx => ∃ (m k : Nat) (q : List Int) (t : Nat), s17 = .int .i64 k ∧ s18 = .int .i64 ((m : Int) - 1) ∧ m ≤ L ∧ k ≤ 640 ∧ t + m ≤ 15 ∧ Hid (0 < m → k ≤ (rowsF base (m - 1)).length) ∧ Hid (q.length = n) ∧ Hid (∀ s, 0 ≤ q.getD s 0 ∧ q.getD s 0 ≤ t) ∧ Hid (outF syms (cntM base m k) q = R) ∧ Own w wx (slc 127 1 (.slice (some ⟨rg, 0, none⟩) L rc) L ((List.range L).map f) :: slc 3 1 (.slice (some ⟨og, 0, none⟩) n oc) n (nums q) :: slc 3 1 (.slice (some ⟨sg, 0, none⟩) N sc) N (nums syms) :: rowPs base f L)) (fun _ s18 _ => (intOf s18 + 1).toNat)
  case atStart => exact ⟨L, nn, o, 0, by go_num, by go_num, Nat.le_refl _, hnn2, by omega, Lib.hid (fun _ => HNN.out), ho, Lib.hid (fun s => by rw [hz.out s]; omega), hRM, H⟩
  case round =>
    clear H hRM HNN hwN hwN2 hz ho
    obtain ⟨m, k, q, t, rfl, rfl, hm, hk, ht, hkl, hq, hqb, hqR, H⟩ := hrel
    rcases Nat.eq_zero_or_pos m with h0 | h0
    · subst h0
      have e : Hid (q = R) := Lib.hid hqR.out
      have hm1 : ¬ (0 : Int) ≤ ((0 : Nat) : Int) - 1 := by omega
      clear hqR hkl
      go_wp2
      go_ret2
      refine ⟨_, rfl, _, rfl, ?_⟩
      rw [← e.out]
      obtain ⟨r, hr⟩ : ∃ r, rowPs base f L = r := ⟨_, rfl⟩
      have H2 := (H.front 1 rfl)
      refine ⟨H2.below, ?_⟩
      obtain ⟨_, h, g1, g2, g3, _⟩ := H2
      exact ⟨h, g1, g2, g3, trivial⟩
    · obtain ⟨i, rfl⟩ : ∃ i, m = i + 1 := ⟨m - 1, by omega⟩
      have hiE : ((i + 1 : Nat) : Int) - 1 = (i : Int) := by omega
      rw [hiE]
      have hrd : Rd wr 2 (f i) (rowsF base i).length (rows ce (rowsF base i)) := (H.front (3 + (L - 1 - i)) (by
        rw [Nat.add_comm 3]
        simp only [List.getElem?_cons_succ]
        exact rowPs_get base f L i (by omega))).rd
      have hkl2 : k ≤ (rowsF base i).length := by have := hkl.out (by omega); simpa using this
      have hrl := rowsF_len_le base i
      rw [hN.out] at hrl
      have hs := (ns_singles hb.out i k hkl2).1
      rw [hN.out] at hs
      have hp := npF_le (rowsF base i) k
      have hnext : 0 < i → 2 * npF (rowsF base i) k ≤ (rowsF base (i - 1)).length := fun h => by
        obtain ⟨j, rfl⟩ : ∃ j, i = j + 1 := ⟨i - 1, by omega⟩
        exact np_two hb.out j k
      have hqR2 := hqR.out
      rw [cntM] at hqR2
      have hc := counted_any hrd (by omega) hkl2
      obtain ⟨P, hP⟩ : ∃ P, Hid (npF (rowsF base i) k = P) := ⟨_, rfl⟩
      rw [hP.out] at hs hp hnext hqR2 hc
      obtain ⟨S, hS⟩ : ∃ S, Hid (k - P = S) := ⟨_, rfl⟩
      rw [hS.out] at hs hqR2 hc
      obtain ⟨fa, fc, hfi, hf1, hf2⟩ := hrd.shape
      have c0 : wr.cell? ⟨rg, i, none⟩ = some (f i) := by
        have := H.rd.cell (j := i) (u := f i) (by simp [show i < L by omega])
        simpa using this
      rw [hfi] at c0 hc
      have HC := Lib.hid hc
      have HR2 : Hid (outF syms (cntM base i (2 * P)) (bumpF q (syms.take S)) = R) := Lib.hid hqR2
      have HNX := Lib.hid hnext
      have hiL : (i : Int) < (L : Int) := by omega
      have hLc : L ≤ rc := by obtain ⟨_, _, e, h1, _⟩ := H.rd.shape; cases e; exact h1
      obtain ⟨ln, hln⟩ : ∃ ln, (rowsF base i).length = ln := ⟨_, rfl⟩
      rw [hln] at hrl c0 HC
      clear hc hqR2 hqR hnext hkl hkl2 hrd hfi hln hiE hm h0 hf1 hf2
      go_wp2_with fail
      refine HC.out.mono ?_
      rintro e w1 ⟨_, rfl, rfl, H1⟩
      have H := H.join H1
      clear H1 c0 HC
      have hSN : (S : Int) ≤ (N : Int) := by omega
      have hSc : (S : Int) ≤ (sc : Int) := by omega
      go_wp2_with fail
      go_loopw [135] (fun s135 wx => ∃ j : Nat, s135 = .int .i64 j ∧ j ≤ S ∧ Own w wx (slc 127 1 (.slice (some ⟨rg, 0, none⟩) L rc) L ((List.range L).map f) :: slc 3 1 (.slice (some ⟨og, 0, none⟩) n oc) n (nums (bumpF q (syms.take j))) :: slc 3 1 (.slice (some ⟨sg, 0, none⟩) N sc) N (nums syms) :: rowPs base f L)) (fun s135 _ => S - (intOf s135).toNat)
      case atStart => exact ⟨0, by go_num, by omega, by simpa [bumpF] using H⟩
      case round =>
        clear H
        obtain ⟨j, rfl, hj, H⟩ := hrel
        by_cases hlt : j < S
        · obtain ⟨x, hx⟩ := get_of_lt (l := syms) (k := j) (by have := hsl.out; omega)
          obtain ⟨z, rfl, hz2⟩ := hin.out x (List.mem_of_getElem? hx)
          have hql : (bumpF q (syms.take j)).length = n := by rw [bumpF_length]; exact hq.out
          have hbd := bump_bounds (o := q) hnd.out (fun x hx => by rw [hq.out]; exact hin.out x hx) j z
          have hqz := hqb.out z
          have hst : (nums (bumpF q (syms.take j))).set z (.int .i64 ((bumpF q (syms.take j)).getD z 0 + 1)) = nums (bumpF q (syms.take (j + 1))) := by
            rw [nums_set, bump_take hx]; rfl
          have c2 := (H.front 2 rfl).rd.cell (nums_get hx)
          have c1 := (H.front 1 rfl).rd.cell (j := z) (nums_get (List.getElem?_eq_getElem (by omega)))
          rw [show (bumpF q (syms.take j))[z]'(by omega) = (bumpF q (syms.take j)).getD z 0 by rw [List.getD_eq_getElem?_getD, List.getElem?_eq_getElem (by omega)]; rfl] at c1
          rw [Nat.zero_add] at c1 c2
          have HST := Lib.hid hst
          obtain ⟨y, hy⟩ : ∃ y, Hid ((bumpF q (syms.take j)).getD z 0 = y) := ⟨_, rfl⟩
          rw [hy.out] at hbd c1 HST
          have hfr := (H.front 1 rfl).at (by rw [nums_length, hql]; omega)
          obtain ⟨_, _, he, ho1, ho2, _⟩ := hfr
          cases he
          have hyw : IntKind.i64.wrap (y + 1) = y + 1 := IntWalk.i64_in _ ⟨by omega, by omega⟩
          have hjI : (j : Int) < (S : Int) := by omega
          have hzI : (z : Int) < (n : Int) := by omega
          clear hst hql hx hbd hqz
          go_wp2_with (refine wpList_store_slc rfl _ _ rfl rfl (H.front 1 rfl) (.int .i64 (y + 1)) rfl (by kernel_rfl) (by omega) rfl ?_; clear H c1 c2; intro w2 H; rw [HST.out] at H; replace H := H.swap)
          go_roundw
          case rel => exact ⟨j + 1, by go_num, by omega, H⟩
          case measure => simp [intOf]; omega
        · obtain rfl : j = S := by omega
          have hjI : ¬ (j : Int) < (j : Int) := by omega
          have hql : Hid ((bumpF q (syms.take j)).length = n) := Lib.hid (by rw [bumpF_length]; exact hq.out)
          have hqb2 : Hid (∀ s, 0 ≤ (bumpF q (syms.take j)).getD s 0 ∧ (bumpF q (syms.take j)).getD s 0 ≤ ((t + 1 : Nat) : Int)) := Lib.hid (fun s => by
            have hbd := bump_bounds (o := q) hnd.out (fun x hx => by rw [hq.out]; exact hin.out x hx) j s
            have hqz := hqb.out s
            omega)
          have hPw : IntKind.i64.wrap (2 * (P : Int)) = ((2 * P : Nat) : Int) := by rw [IntWalk.i64_in _ ⟨by omega, by omega⟩]; omega
          have hiw : IntKind.i64.wrap ((i : Int) - 1) = (i : Int) - 1 := IntWalk.i64_in _ ⟨by omega, by omega⟩
          have hP2 : 2 * P ≤ 640 := by
            rcases Nat.eq_zero_or_pos i with h | h
            · have h2 := hP.out
              rw [h, rowsF_zero_np hb.out] at h2
              omega
            · have h2 := HNX.out h
              have h3 := rowsF_len_le base (i - 1)
              have h4 := hN.out
              omega
          generalize bumpF q (syms.take j) = q2 at *
          clear hqb hq
          go_wp2
          go_roundw
          case rel => exact ⟨i, 2 * P, q2, t + 1, by go_num, by go_num, by omega, hP2, by omega, HNX, hql, hqb2, HR2, H⟩
          case measure => simp [intOf]
end Go.Proofs.Ytpbodonmiepilaa
/- huff: the walk of Lengths: the rows. -/
namespace Go.Proofs.Ytpbodonmiepilaa
open Go.RowKit

theorem crowInfo : (Try.prog.info? 127).map (fun i => (i.zero, i.size, i.bytes)) = some (some (.slice none 0 0), 1, 24) := by kernel_rfl
theorem rows_map_one (F : List Int) (z : Nat) : ce (coinOf F z) = [.int .i64 (F.getD z 0), .bool false] := rfl

set_option maxRecDepth 100000 in
set_option maxHeartbeats 12800000 in
theorem len_tail22 {w wr : World} {base : List Coin} {v : Value} {F syms o R : List Int} {L N n B og oc sg sc : Nat} {er : Int} (hb : Hid (Base base)) (hbe : Hid (syms.map (coinOf F) = base)) (hN : Hid (base.length = N)) (h2 : 2 ≤ N) (hN3 : N ≤ 320) (hL1 : 1 ≤ L) (hL2 : L ≤ 15) (hn : n ≤ 320) (ho : Hid (o.length = n)) (hz : Hid (∀ s, o.getD s 0 = 0))
    (hsl : Hid (syms.length = N)) (hnd : Hid syms.Nodup) (hin : Hid (∀ x ∈ syms, ∃ s : Nat, x = s ∧ s < n)) (hpow : Hid (N ≤ 2 ^ L)) (he : er = 0) (hR : Hid (outF syms (cntF base (L - 1) (2 * N - 2)) o = R)) (hr : Hid (Rd w 1 v n (nums F))) (hF : Hid (∀ c ∈ base, c.w ≤ 4294967296))
    (z0 z3 z4 z5 z6 z8 z9 z11 z12 z13 z14 z15 z16 z17 z18 z19 z20 z21 z22 z23 z24 z25 z26 z27 z28 z29 z30 z31 z32 z33 z34 z35 z36 z37 z38 z39 z40 z41 z42 z43 z44 z45 z46 z47 z48 z49 z50 z51 z52 z53 z54 z55 z56 z57 z58 z59 z60 z61 z62 z63 z64 z65 z66 z67 z68 z69 z70 z71 z72 z73 z74 z75 z76 z77 z78 z79 z80 z81 z82 z83 z84 z85 z86 z87 z88 z89 z90 z91 z92 z93 z94 z95 z96 z97 z98 z99 z100 z101 z102 z103 z104 z105 z106 z107 z108 z109 z110 z111 z112 z113 z114 z115 z116 z117 z118 z119 z120 z121 z122 z123 z124 z125 z126 z127 z128 z129 z130 z131 z132 z133 z134 z135 z136 z137 z138 z139 z140 z141 z142 z143 z144 z145 z146 z147 z148 : Value)
    (H : Own w wr (slc 3 1 (.slice (some ⟨og, 0, none⟩) n oc) n (nums o) :: slc 3 1 (.slice (some ⟨sg, 0, none⟩) N sc) N (nums syms) :: blk B (.cells #[v] 22) :: [])) :
    Code.wp Try.prog (lenTail 22) (bodyPost Try.prog Try.f58 (Ret fun r w' => ∃ ov, r = .tuple #[ov, .int .i64 er] ∧ Own w w' [slc 3 1 ov n (nums R)]))
      ⟨#[z0, .int .i64 L, .pointer (some ⟨B, 0, none⟩), z3, z4, z5, z6, .slice (some ⟨sg, 0, none⟩) N sc, z8, z9, .slice (some ⟨og, 0, none⟩) n oc, z11, z12, z13, z14, z15, z16, z17, z18, z19, z20, z21, z22, z23, z24, z25, z26, z27, z28, z29, z30, z31, z32, z33, z34, z35, z36, z37, z38, z39, z40, z41, z42, z43, z44, z45, z46, z47, z48, z49, z50, z51, z52, z53, z54, z55, z56, z57, z58, z59, z60, z61, z62, z63, z64, z65, z66, z67, z68, z69, z70, z71, z72, z73, z74, z75, z76, z77, z78, z79, z80, z81, z82, z83, z84, z85, z86, z87, z88, z89, z90, z91, z92, z93, z94, z95, z96, z97, z98, z99, z100, z101, z102, z103, z104, z105, z106, z107, z108, z109, z110, z111, z112, z113, z114, z115, z116, z117, z118, z119, z120, z121, z122, z123, z124, z125, z126, z127, z128, z129, z130, z131, z132, z133, z134, z135, z136, z137, z138, z139, z140, z141, z142, z143, z144, z145, z146, z147, z148], []⟩ wr := by
  conv => arg 2; whnf
  dsimp only
  have hFl : Hid (F.length = n) := Lib.hid (by have := hr.out.len; rw [nums_length] at this; omega)
  obtain ⟨x0, hx0⟩ := get_of_lt (l := syms) (k := 0) (by have := hsl.out; omega)
  obtain ⟨z0', _, hz0'⟩ := hin.out x0 (List.mem_of_getElem? hx0)
  obtain ⟨fb, fo, fc, rfl, hc1, hc2⟩ := hr.out.some (by rw [nums_length]; have := hFl.out; omega)
  clear hx0
  have H := (H.nil 129 2)
  have hwL : IntKind.i64.wrap ((L : Int) - 1) = (L : Int) - 1 := IntWalk.i64_in _ ⟨by omega, by omega⟩
  go_wp2_with fail
  go_loopw [13, 80] (fun s13 s80 wx => ∃ k : Nat, s80 = .int .i64 k ∧ k ≤ N ∧ Own w wx (slc 129 2 s13 k (rows ce ((syms.take k).map (coinOf F))) :: slc 3 1 (.slice (some ⟨og, 0, none⟩) n oc) n (nums o) :: slc 3 1 (.slice (some ⟨sg, 0, none⟩) N sc) N (nums syms) :: blk B (.cells #[.slice (some ⟨fb, fo, none⟩) n fc] 22) :: [])) (fun _ s80 _ => N - (intOf s80).toNat)
  case atStart => exact ⟨0, by go_num, by omega, by simpa [rows] using H⟩
  case round =>
    clear H
    obtain ⟨k, rfl, hk, H⟩ := hrel
    by_cases hlt : k < N
    · obtain ⟨x, hx⟩ := get_of_lt (l := syms) (k := k) (by have := hsl.out; omega)
      obtain ⟨z, rfl, hz2⟩ := hin.out x (List.mem_of_getElem? hx)
      have hst : rows ce ((syms.take k).map (coinOf F)) ++ ce (coinOf F z) = rows ce ((syms.take (k + 1)).map (coinOf F)) := by
        rw [List.take_add_one, hx, List.map_append, rows_append]; rfl
      have c2 := (H.front 2 rfl).rd.cell (nums_get hx)
      have c3 := (H.front 3 rfl).cells
      have c1 := (hr.out.old H).cell (j := z) (nums_get (List.getElem?_eq_getElem (by have := hFl.out; omega)))
      rw [show F[z]'(by have := hFl.out; omega) = F.getD z 0 by rw [List.getD_eq_getElem?_getD, List.getElem?_eq_getElem (by have := hFl.out; omega)]; rfl] at c1
      rw [Nat.zero_add] at c2
      rw [rows_map_one] at hst
      have HST := Lib.hid hst
      obtain ⟨y, hy⟩ : ∃ y, Hid (F.getD z 0 = y) := ⟨_, rfl⟩
      rw [hy.out] at c1 HST
      have hkI : (k : Int) < (N : Int) := by omega
      have hzI : (z : Int) < (n : Int) := by omega
      clear hst hx
      go_wp2_with (at_builtin; refine wpList_append_one rfl _ _ rfl Try.underlying127 coinInfo rfl (by decide) rfl H (news := [.int .i64 y, .bool false]) rfl rfl rfl (by simp [Value.oneCell']) (by omega) (by omega) ?_; clear H c1 c2 c3; intro v' w' H; rw [HST.out] at H)
      go_roundw
      case rel => exact ⟨k + 1, by go_num, by omega, H⟩
      case measure => simp [intOf]; omega
    · obtain rfl : k = N := by omega
      rw [List.take_of_length_le (by have := hsl.out; omega), hbe.out] at H
      obtain ⟨bg, bc, rfl, hd1, hd2, -⟩ := H.at (by rw [rows_length ce SC.e_length, hN.out]; omega)
      obtain ⟨bv, hbv⟩ : ∃ bv, Hid (Value.slice (some ⟨bg, 0, none⟩) k bc = bv) := ⟨_, rfl⟩
      have hkI : ¬ (k : Int) < (k : Int) := by omega
      go_upto_region 29 with (fail)
      replace H := (H.alloc (.cells #[.slice (some ⟨bg, 0, none⟩) k bc] 127)).slc_mk (xs := [.slice (some ⟨bg, 0, none⟩) k bc]) (n := 1) (size := 1) rfl (Nat.le_refl _) (by decide) rfl rfl
      generalize wr.alloc (.cells #[.slice (some ⟨bg, 0, none⟩) k bc] 127) = w0 at *
      generalize wr.heap.size = rg0 at *
      have H : Own w w0 (slc 127 1 (.slice (some ⟨rg0, 0, none⟩) (0 + 1) 1) (0 + 1) ((List.range (0 + 1)).map (fun _ => Value.slice (some ⟨bg, 0, none⟩) k bc)) :: slc 3 1 (.slice (some ⟨og, 0, none⟩) n oc) n (nums o) :: slc 3 1 (.slice (some ⟨sg, 0, none⟩) k sc) k (nums syms) :: rowPs base (fun _ => Value.slice (some ⟨bg, 0, none⟩) k bc) (0 + 1)) := by
        have e : slc 129 2 (.slice (some ⟨bg, 0, none⟩) k bc) k (rows ce base) = slc 129 2 (.slice (some ⟨bg, 0, none⟩) k bc) (rowsF base 0).length (rows ce (rowsF base 0)) := by
          show _ = slc 129 2 _ base.length _
          rw [hN.out]; rfl
        rw [e] at H
        exact (((((H.front 3 rfl).front 3 rfl).front 2 rfl).front 4 rfl).drop)
      go_upto_block 6 with (fail)
      go_cut [16] (fun s16 wx => ∃ (rg rc : Nat) (f : Nat → Value), s16 = .slice (some ⟨rg, 0, none⟩) L rc ∧ Hid (f 0 = .slice (some ⟨bg, 0, none⟩) k bc) ∧ Own w wx (slc 127 1 (.slice (some ⟨rg, 0, none⟩) L rc) L ((List.range L).map f) :: slc 3 1 (.slice (some ⟨og, 0, none⟩) n oc) n (nums o) :: slc 3 1 (.slice (some ⟨sg, 0, none⟩) k sc) k (nums syms) :: rowPs base f L))
      case first =>
        go_wp2_with fail
        go_loopw [16, 97] (fun s16 s97 wx => ∃ (i rg rc : Nat) (f : Nat → Value), s97 = .int .i64 i ∧ i + 1 ≤ L ∧ s16 = .slice (some ⟨rg, 0, none⟩) (i + 1) rc ∧ Hid (f 0 = .slice (some ⟨bg, 0, none⟩) k bc) ∧ Own w wx (slc 127 1 (.slice (some ⟨rg, 0, none⟩) (i + 1) rc) (i + 1) ((List.range (i + 1)).map f) :: slc 3 1 (.slice (some ⟨og, 0, none⟩) n oc) n (nums o) :: slc 3 1 (.slice (some ⟨sg, 0, none⟩) k sc) k (nums syms) :: rowPs base f (i + 1))) (fun _ s97 _ => L - (intOf s97).toNat)
        case atStart => exact ⟨0, rg0, 1, _, by go_num, hL1, rfl, Lib.hid rfl, H⟩
        case round =>
          clear H
          obtain ⟨i, rg, rc, f, rfl, hi, rfl, hf0, H⟩ := hrel
          by_cases hlt : i + 1 < L
          · have hbase : Rd wr 2 (f 0) (rowsF base 0).length (rows ce (rowsF base 0)) := (H.front (3 + (i + 1 - 1 - 0)) (by
              rw [Nat.add_comm 3]
              simp only [List.getElem?_cons_succ]
              exact rowPs_get base f (i + 1) 0 (by omega))).rd
            have hlast : Rd wr 2 (f i) (rowsF base i).length (rows ce (rowsF base i)) := (H.front 3 rfl).rd
            have hbl : (rowsF base 0).length = k := hN.out
            have hll : (rowsF base i).length ≤ 1000 := by have := rowsF_len_le base i; have := hN.out; omega
            have hbw : ∀ c ∈ rowsF base i, 0 ≤ c.w ∧ c.w ≤ 1000000000000000000 := fun c hc => by
              have h1 := rowsF_pos hb.out i c hc
              have h2 := rowsF_le i 4294967296 (by omega) hF.out c hc
              have h3 : (2 : Int) ^ i ≤ 2 ^ 14 := by
                have : (2 : Nat) ^ i ≤ 2 ^ 14 := Nat.pow_le_pow_right (by omega) (by omega)
                exact_mod_cast this
              have h4 := Int.mul_le_mul_of_nonneg_right h3 (show (0 : Int) ≤ 4294967296 by omega)
              omega
            obtain ⟨fa, fcp, hfi, hf1, hf2⟩ := hlast.shape
            have hc := row_any hbase hlast (by rw [hbl]; omega) (by rw [hbl]; omega) hll hbw
            have e1 : rowF (rowsF base 0) (rowsF base i) = rowsF base (i + 1) := rfl
            rw [e1] at hc
            obtain ⟨_, _, he, hr1, hr2, -⟩ := H.at (by simp)
            cases he
            have c0 : wr.cell? ⟨rg, i, none⟩ = some (f i) := by
              have := H.rd.cell (j := i) (u := f i) (by simp)
              simpa using this
            rw [hf0.out] at hc
            rw [hfi] at c0 hc
            have HC := Lib.hid hc
            obtain ⟨ln, hln⟩ : ∃ ln, (rowsF base i).length = ln := ⟨_, rfl⟩
            rw [hln] at c0 HC
            have hiI : (i : Int) < ((L : Int) - 1) := by omega
            clear hc hbase hlast hbl hll hbw e1 hfi hln hf1 hf2
            go_wp2_with fail
            refine HC.out.mono ?_
            rintro e w1 ⟨r, rfl, H1⟩
            obtain ⟨ra, rcp, rfl, -⟩ := H1.rd.shape
            have H := (H.join H1).swap
            clear HC H1 c0
            obtain ⟨rv, hrv⟩ : ∃ rv, Hid (Value.slice ra (rowsF base (i + 1)).length rcp = rv) := ⟨_, rfl⟩
            obtain ⟨rl, hrl⟩ : ∃ rl, Hid ((rowsF base (i + 1)).length = rl) := ⟨_, rfl⟩
            rw [hrl.out] at hrv H ⊢
            go_wp2_with (at_builtin; refine wpList_append_one rfl _ _ rfl Try.underlying130 crowInfo rfl (by decide) rfl H (news := [.slice ra rl rcp]) rfl rfl rfl (by simp [Value.oneCell']) (by omega) (by omega) ?_; clear H; intro v' w' H; obtain ⟨rg2, rc2, rfl, -⟩ := H.at (by simp))
            rw [hrv.out] at H
            go_roundw
            case rel =>
              refine ⟨i + 1, rg2, rc2, fun j => if j = i + 1 then rv else f j, by go_num, by omega, rfl, Lib.hid (by show (if 0 = i + 1 then rv else f 0) = _; rw [if_neg (by omega)]; exact hf0.out), ?_⟩
              have e1 : (List.range (i + 1)).map f ++ [rv] = (List.range (i + 1 + 1)).map (fun j => if j = i + 1 then rv else f j) := by
                rw [List.range_succ (n := i + 1), List.map_append]
                congr 1
                · refine List.map_congr_left fun j hj => ?_
                  rw [if_neg (by have := List.mem_range.1 hj; omega)]
                · simp
              have e2 : rowPs base (fun j => if j = i + 1 then rv else f j) (i + 1 + 1) = slc 129 2 rv (rowsF base (i + 1)).length (rows ce (rowsF base (i + 1))) :: rowPs base f (i + 1) := by
                rw [rowPs, if_pos rfl, rowPs_congr base _ f (i + 1) fun j hj => by rw [if_neg (by omega)]]
              rw [← e1, e2]
              rw [hrl.out]
              exact ((((H.front 3 rfl).front 3 rfl).front 2 rfl))
            case measure => simp [intOf]; omega
          · have hLi : i + 1 = L := by omega
            rw [hLi] at H ⊢
            have hiI : ¬ (i : Int) < (L : Int) - 1 := by omega
            clear hLi hi hlt
            go_wp2_with fail
            go_meet
            exact ⟨rg, rc, f, rfl, hf0, H⟩
      case rest =>
        clear H
        obtain ⟨rg, rc, f, rfl, hf0, H⟩ := hcut
        apply_assumption
        have hb0 := hf0.out
        rw [← hb0]
        exact len_tail33 (n := n) hb hN h2 hN3 hL1 hL2 hn ho hz hsl hnd hin hpow he hR ⟨_, _, hb0⟩ _ _ _ _ _ _ _ _ _ _ _ _ _ _ _ _ _ _ _ _ _ _ _ _ _ _ _ _ _ _ _ _ _ _ _ _ _ _ _ _ _ _ _ _ _ _ _ _ _ _ _ _ _ _ _ _ _ _ _ _ _ _ _ _ _ _ _ _ _ _ _ _ _ _ _ _ _ _ _ _ _ _ _ _ _ _ _ _ _ _ _ _ _ _ _ _ _ _ _ _ _ _ _ _ _ _ _ _ _ _ _ _ _ _ _ _ _ _ _ _ _ _ _ _ _ _ _ _ _ _ _ _ _ _ _ _ _ _ _ _ _ _ _ _ H
end Go.Proofs.Ytpbodonmiepilaa
/- huff: the walk of Lengths. -/
namespace Go.Proofs.Ytpbodonmiepilaa
open Go.RowKit


theorem sort_syms {w0 w : World} {ps : List Piece} {N B n : Nat} {l F : List Int} {v sv : Value} (hr : Rd w0 1 v n (nums F)) (hn : n ≤ 1000000) (hok : ∀ x ∈ l, 0 ≤ x ∧ x < F.length) (hN : N = l.length) (hNb : N ≤ 1000000)
    (H : Own w0 w (slc 3 1 sv N (nums l) :: blk B (.cells #[v] 22) :: ps)) :
    Calls Try.prog 83 #[sv, SI.cf B] w (Ret fun _ w' => Own w0 w' (slc 3 1 sv N (nums (sortF (frq F) l)) :: blk B (.cells #[v] 22) :: ps)) := by
  rcases H.slc_cases with ⟨rfl, rfl, hx, H2⟩ | ⟨g, cap, cur, rfl, _⟩
  · refine (sortnil_any _ w).mono ?_
    rintro e w1 ⟨_, rfl, h⟩
    have hl : l = [] := List.eq_nil_of_length_eq_zero hN.symm
    subst hl
    exact ⟨_, rfl, (H2.join h).nil _ _⟩
  · rw [← rows_ie] at H ⊢
    exact sortI_any hr hn hok hN hNb H

set_option maxRecDepth 100000 in
set_option maxHeartbeats 12800000 in
theorem lengths_any {w : World} {v : Value} {n : Nat} {F : List Int} {L : Int} (hr : Rd w 1 v n (nums F)) (hn : n ≤ 1000) :
    Calls Try.prog 58 #[v, .int .i64 L] w (Ret fun r w' => ∃ ov, r = .tuple #[ov, .int .i64 (errF F L)] ∧ Own w w' [slc 3 1 ov (resF F L).length (nums (resF F L))]) := by
  have hFl : Hid (F.length = n) := Lib.hid (by have := hr.len; rw [nums_length] at this; omega)
  obtain ⟨va, vc, rfl, hv1, hv2⟩ := hr.shape
  have HR := Lib.hid hr
  have H := (Own.start w).alloc (.cells #[.slice va n vc] 22)
  obtain ⟨bad, hbad⟩ : ∃ bad, Hid (badArg F L = bad) := ⟨_, rfl⟩
  obtain ⟨er, her⟩ : ∃ er, Hid (errF F L = er) := ⟨_, rfl⟩
  obtain ⟨R, hRes⟩ : ∃ R, Hid (resF F L = R) := ⟨_, rfl⟩
  rw [her.out, hRes.out]
  obtain ⟨RL, hRL⟩ : ∃ RL, Hid (R.length = RL) := ⟨_, rfl⟩
  rw [hRL.out]
  have hC := contains_any (w := w) hr (by omega)
  clear hr
  go_enter Try.func58, Try.ntmps58
  go_upto_region 2 with (fail)
  generalize w.alloc (.cells #[.slice va n vc] 22) = wa at *
  generalize w.heap.size = B at *
  have c0 := H.cells
  have HCON := Lib.hid hC
  clear hC
  go_cut [38] (fun s38 wx => s38 = .bool bad ∧ Own w wx [blk B (.cells #[.slice va n vc] 22)])
  case first =>
    have hbd := hbad.out
    unfold badArg at hbd
    rw [hFl.out] at hbd
    by_cases h1 : L < 1
    · have e : Hid (bad = true) := Lib.hid (by rw [← hbd]; simp [h1])
      clear hbd
      go_wp2_with fail
      go_meet
      exact ⟨by rw [e.out], H⟩
    · by_cases h2 : 15 < L
      · have e : Hid (bad = true) := Lib.hid (by rw [← hbd]; simp [h2])
        clear hbd
        go_wp2_with fail
        go_meet
        exact ⟨by rw [e.out], H⟩
      · by_cases h3 : 320 < n
        · have e : Hid (bad = true) := Lib.hid (by rw [← hbd]; simp [h3])
          have h3I : (320 : Int) < (n : Int) := by omega
          clear hbd
          go_wp2_with fail
          go_meet
          exact ⟨by rw [e.out], H⟩
        · have e : Hid (bad = anyBad F) := Lib.hid (by rw [← hbd]; simp [h1, h2, h3])
          have h3I : ¬ (320 : Int) < (n : Int) := by omega
          have HC2 := Lib.hid (contains_any (HR.out.old H) (by omega))
          clear hbd HCON
          go_wp2_with fail
          refine HC2.out.mono ?_
          rintro e1 w1 ⟨_, rfl, rfl, H1⟩
          have H := H.join H1
          rw [← e.out]
          go_wp2_with fail
          go_meet
          exact ⟨rfl, H⟩
  case rest =>
    clear H c0 HCON
    obtain ⟨rfl, H⟩ := hcut
    cases bad with
    | true =>
      have e1 : Hid (er = 1) := Lib.hid (by rw [← her.out]; unfold errF; rw [hbad.out]; rfl)
      have e2 : Hid (R = []) := Lib.hid (by rw [← hRes.out]; unfold resF; rw [her.out, e1.out]; rfl)
      go_wp2_with fail
      go_ret2
      refine ⟨_, rfl, _, by rw [e1.out]; rfl, ?_⟩
      have e3 := hRL.out
      rw [e2.out] at e3
      subst e3
      rw [e2.out]
      exact (H.nil 3 1).swap.drop
    | false =>
      have hbd := hbad.out
      unfold badArg at hbd
      simp only [Bool.or_eq_false_iff, decide_eq_false_iff_not] at hbd
      obtain ⟨⟨⟨hL1, hL2⟩, hL3⟩, hab⟩ := hbd
      obtain ⟨M, rfl⟩ : ∃ M : Nat, L = M := ⟨L.toNat, by omega⟩
      have hM1 : 1 ≤ M := by omega
      have hM2 : M ≤ 15 := by omega
      have hn3 : n ≤ 320 := by have := hFl.out; omega
      have hFb : Hid (∀ f ∈ F, 0 ≤ f ∧ f ≤ 4294967296) := Lib.hid (fun f hf => by
        unfold anyBad at hab
        rw [List.any_eq_false] at hab
        have := hab f hf
        simp only [badF, decide_eq_true_eq] at this
        omega)
      clear hab hL1 hL2 hL3
      have c0 := H.cells
      have H := H.nil 3 1
      go_wp2_with fail
      clear c0
      go_loopw [7, 41] (fun s7 s41 wx => ∃ k : Nat, s41 = .int .i64 k ∧ k ≤ n ∧ Own w wx [slc 3 1 s7 (usedN F k).length (nums (usedN F k)), blk B (.cells #[.slice va n vc] 22)]) (fun _ s41 _ => n - (intOf s41).toNat)
      case atStart => exact ⟨0, by go_num, by omega, by simpa [usedN, nums] using H⟩
      case round =>
        clear H
        obtain ⟨k, rfl, hk, H⟩ := hrel
        by_cases hlt : k < n
        · obtain ⟨b, o, rfl, c1⟩ := rd_num HR.out H (by have := hFl.out; omega : k < F.length) rfl
          have hu := usedN_length F k
          have hus : usedN F (k + 1) = if 0 < F.getD k 0 then usedN F k ++ [(k : Int)] else usedN F k := rfl
          obtain ⟨x, hx⟩ : ∃ x, Hid (F.getD k 0 = x) := ⟨_, rfl⟩
          rw [hx.out] at c1 hus
          have hkI : (k : Int) < (n : Int) := by omega
          obtain ⟨U, hU⟩ : ∃ U, Hid (usedN F k = U) := ⟨_, rfl⟩
          rw [hU.out] at H hus hu
          by_cases hpos : 0 < x
          · rw [if_pos hpos] at hus
            have HUS := Lib.hid hus
            obtain ⟨q, hq⟩ : ∃ q, Hid (U.length = q) := ⟨_, rfl⟩
            rw [hq.out] at H hu
            clear hus
            go_wp2_with (at_builtin; refine wpList_append_one rfl _ _ rfl Try.underlying22 intInfo rfl (by decide) rfl H (news := [.int .i64 k]) rfl rfl rfl (by simp [Value.oneCell']) (by omega) (by omega) ?_; clear H c1; intro v' w' H)
            go_roundw
            case rel =>
              refine ⟨k + 1, by go_num, by omega, ?_⟩
              rw [HUS.out, List.length_append, hq.out]
              simpa [nums] using H
            case measure => simp [intOf]; omega
          · rw [if_neg hpos] at hus
            have HUS := Lib.hid hus
            clear hus
            go_wp2_with fail
            go_roundw
            case rel => exact ⟨k + 1, by go_num, by omega, by rw [HUS.out]; exact H⟩
            case measure => simp [intOf]; omega
        · obtain rfl : k = n := by omega
          have hkI : ¬ (k : Int) < (k : Int) := by omega
          have hul := usedN_length F k
          have hus : Hid (usedN F k = usedF F) := Lib.hid (by unfold usedF; rw [hFl.out])
          rw [hus.out] at H hul
          obtain ⟨a7, c7, rfl, -⟩ := H.rd.shape
          obtain ⟨N, hN⟩ : ∃ N, Hid ((usedF F).length = N) := ⟨_, rfl⟩
          rw [hN.out] at H hul ⊢
          obtain ⟨p, hp⟩ : ∃ p : Nat, Hid (2 ^ M = p) := ⟨_, rfl⟩
          have hp1 : p ≤ 32768 := by
            rw [← hp.out]
            have : 2 ^ M ≤ 2 ^ 15 := Nat.pow_le_pow_right (by omega) hM2
            omega
          have hpw : wrap64 ((2 : Int) ^ M) = (p : Int) := by
            have e : (2 : Int) ^ M = (p : Int) := by rw [← hp.out]; simp
            rw [e]
            exact IntWalk.wrap64_in _ ⟨by omega, by omega⟩
          have herr : Hid (er = if p < N then 3 else 0) := Lib.hid (by
            rw [← her.out]; unfold errF
            rw [hbad.out, if_neg (by simp), Int.toNat_natCast, hp.out, hN.out])
          by_cases hfull : p < N
          · have e1 : Hid (er = 3) := Lib.hid (by rw [herr.out, if_pos hfull])
            have e2 : Hid (R = []) := Lib.hid (by rw [← hRes.out]; unfold resF; rw [her.out, e1.out]; rfl)
            have hfI : (p : Int) < (N : Int) := by omega
            go_wp2_with fail
            go_ret2
            refine ⟨_, rfl, _, by rw [e1.out]; rfl, ?_⟩
            have e3 := hRL.out
            rw [e2.out] at e3
            subst e3
            rw [e2.out]
            exact (H.bare.nil 3 1)
          · have e1 : Hid (er = 0) := Lib.hid (by rw [herr.out, if_neg hfull])
            have e2 : Hid (lengthsF F M = R) := Lib.hid (by rw [← hRes.out]; unfold resF; rw [her.out, e1.out]; rfl)
            have hfI : ¬ (p : Int) < (N : Int) := by omega
            have hS := sort_syms HR.out (by omega) (fun x hx => by
              obtain ⟨s, rfl, h1, _⟩ := (usedN_mem F _ x).1 hx
              exact ⟨by omega, by omega⟩) hN.out.symm (by omega) H
            have esym : sortF (frq F) (usedF F) = symsF F := rfl
            rw [esym] at hS
            have hsl : Hid ((symsF F).length = N) := Lib.hid (by rw [syms_length]; exact hN.out)
            have HS := Lib.hid hS
            clear hS esym herr
            go_wp2_with fail
            refine HS.out.mono ?_
            rintro e w1 ⟨_, rfl, H1⟩
            clear H HS
            have c0 := (H1.front 1 rfl).cells
            have hmk : ∀ w : World, (Instr.makeSlice 22 (.int .i64 k) (.int .i64 k)).run Try.prog w = .ok (.slice (some ⟨w.heap.size, 0, none⟩) k k) (w.alloc (.cells (madeCells #[.int .i64 0] k) 3)) := run_make_row' _ _ _ 8 Try.underlying22 intInfo rfl .i64 .i64 k (by omega) (by omega)
            go_upto_region 15 with (fail)
            clear c0 hmk
            have H := (H1.alloc (.cells (madeCells #[.int .i64 0] k) 3)).slc_mk (xs := nums (zerosF k)) (n := k) (size := 1) (by simp [nums, zerosF]) (Nat.le_refl _) (by simp [maxLen]; omega) (by simp [size_madeCells]) (by rw [toList_madeCells_one]; simp [nums, zerosF])
            clear H1
            generalize w1.alloc (.cells (madeCells #[.int .i64 0] k) 3) = wb at *
            generalize w1.heap.size = og at *
            have hz : Hid (∀ s, (zerosF k).getD s 0 = 0) := Lib.hid (fun s => by
              unfold zerosF
              rw [List.getD_eq_getElem?_getD, List.getElem?_replicate]
              split <;> rfl)
            have hzl : Hid ((zerosF k).length = k) := Lib.hid (by simp [zerosF])
            have hin : Hid (∀ x ∈ symsF F, ∃ s : Nat, x = s ∧ s < k) := Lib.hid (fun x hx => by
              obtain ⟨s, rfl, h1, _⟩ := (syms_mem F x).1 hx
              exact ⟨s, rfl, by have := hFl.out; omega⟩)
            have hRl : k = RL := by rw [← hRL.out, ← e2.out, lengthsF_length]; exact hFl.out.symm
            subst hRl
            by_cases h2 : N < 2
            · have hN2 : (N : Int) < 2 := by omega
              have eR : Hid (bumpF (zerosF k) ((symsF F).take N) = R) := Lib.hid (by
                rw [List.take_of_length_le (by rw [hsl.out]; exact Nat.le_refl _), ← e2.out]
                unfold lengthsF
                rw [if_pos (by rw [hsl.out]; exact h2), hFl.out])
              go_wp2_with fail
              go_loopw [69] (fun s69 wx => ∃ j : Nat, s69 = .int .i64 j ∧ j ≤ N ∧ Own w wx [slc 3 1 (.slice (some ⟨og, 0, none⟩) k k) k (nums (bumpF (zerosF k) ((symsF F).take j))), slc 3 1 (.slice a7 N c7) N (nums (symsF F)), blk B (.cells #[.slice va k vc] 22)]) (fun s69 _ => N - (intOf s69).toNat)
              case atStart => exact ⟨0, by go_num, by omega, by simpa [bumpF] using H⟩
              case round =>
                clear H
                obtain ⟨j, rfl, hj, H⟩ := hrel
                by_cases hlt : j < N
                · obtain rfl : j = 0 := by omega
                  obtain ⟨x, hx⟩ := get_of_lt (l := symsF F) (k := 0) (by have := hsl.out; omega)
                  obtain ⟨z, rfl, hz2⟩ := hin.out x (List.mem_of_getElem? hx)
                  have hst : (nums (bumpF (zerosF k) ((symsF F).take 0))).set z (.int .i64 1) = nums (bumpF (zerosF k) ((symsF F).take (0 + 1))) := by
                    rw [nums_set, bump_take hx]
                    unfold bump1
                    rw [show (bumpF (zerosF k) ((symsF F).take 0)) = zerosF k from rfl, hz.out]
                    rfl
                  have HST := Lib.hid hst
                  obtain ⟨b7, o7, c7', he, -⟩ := (H.front 1 rfl).rd.some (by rw [nums_length, hsl.out]; omega)
                  cases he
                  have c2 := (H.front 1 rfl).rd.cell (nums_get hx)
                  rw [Nat.add_zero] at c2
                  have hjI : (0 : Int) < (N : Int) := by omega
                  have hzI : (z : Int) < (k : Int) := by omega
                  clear hst hx
                  go_wp2_with (refine wpList_store_slc rfl _ _ rfl rfl H (.int .i64 1) rfl (by kernel_rfl) (by omega) rfl ?_; clear H c2; intro w2 H; rw [HST.out] at H)
                  go_roundw
                  case rel => exact ⟨0 + 1, by go_num, by omega, H⟩
                  case measure => simp [intOf]; omega
                · obtain rfl : j = N := by omega
                  have hjI : ¬ (j : Int) < (j : Int) := by omega
                  rw [eR.out] at H
                  go_wp2_with fail
                  go_ret2
                  refine ⟨_, rfl, _, by rw [e1.out]; rfl, ?_⟩
                  exact ((((H.front 2 rfl).front 2 rfl).drop.drop))
            · have h3 : 2 ≤ N := by omega
              have hN2 : ¬ (N : Int) < 2 := by omega
              obtain ⟨sg, sc, he, -⟩ := (H.front 1 rfl).at (by rw [nums_length, hsl.out]; omega)
              cases he
              go_upto_if 66 with (fail)
              go_cut [] (fun wx => Own w wx [slc 3 1 (.slice (some ⟨og, 0, none⟩) k k) k (nums (zerosF k)), slc 3 1 (.slice (some ⟨sg, 0, none⟩) N c7) N (nums (symsF F)), blk B (.cells #[.slice va k vc] 22)])
              case first =>
                go_wp2_with fail
                go_meet
                exact H
              case rest =>
                clear H
                apply_assumption
                refine len_tail22 (n := k) (F := F) (syms := symsF F) (base := baseF F) (o := zerosF k) (Lib.hid (base_law F)) (Lib.hid rfl) (Lib.hid (by rw [base_length]; exact hsl.out)) h3 (by omega) hM1 hM2 hn3 hzl hz hsl (Lib.hid (syms_nodup F)) hin (Lib.hid (by have := hp.out; omega)) e1.out (Lib.hid ?_) HR (Lib.hid ?_) _ _ _ _ _ _ _ _ _ _ _ _ _ _ _ _ _ _ _ _ _ _ _ _ _ _ _ _ _ _ _ _ _ _ _ _ _ _ _ _ _ _ _ _ _ _ _ _ _ _ _ _ _ _ _ _ _ _ _ _ _ _ _ _ _ _ _ _ _ _ _ _ _ _ _ _ _ _ _ _ _ _ _ _ _ _ _ _ _ _ _ _ _ _ _ _ _ _ _ _ _ _ _ _ _ _ _ _ _ _ _ _ _ _ _ _ _ _ _ _ _ _ _ _ _ _ _ _ _ _ _ _ _ _ _ _ _ _ _ _ _ _ _ _ _ hcut
                · rw [← e2.out]
                  unfold lengthsF
                  rw [if_neg (by rw [hsl.out]; omega), hsl.out, hFl.out]
                · intro c hc
                  obtain ⟨s, hs, rfl⟩ := List.mem_map.1 hc
                  obtain ⟨m, rfl, hm, _⟩ := (syms_mem F s).1 hs
                  show F.getD (Int.toNat m) 0 ≤ _
                  rw [Int.toNat_natCast, List.getD_eq_getElem?_getD, List.getElem?_eq_getElem hm]
                  exact (hFb.out _ (List.getElem_mem _)).2
end Go.Proofs.Ytpbodonmiepilaa
/- flate: the walk of rich: its parts. -/
namespace Go.Proofs.Ytpbodonmiepilaa
open Go.RowKit

theorem Own.trimmed {w0 w : World} {ps : List Piece} {g n c : Nat} {F : List Int} (least : Nat) (h : Own w0 w (slc 3 1 (.slice (some ⟨g, 0, none⟩) n c) n (nums F) :: ps)) (hF : F.length = n) :
    Own w0 w (slc 3 1 (.slice (some ⟨g, 0, none⟩) (trimF F least).length c) (trimF F least).length (nums (trimF F least)) :: ps) := by
  have hk := trimK_le' F least n
  have h1 := h.slc_take hk
  have e : (nums F).take (trimK F least n * 1) = nums (trimF F least) := by
    unfold trimF nums
    rw [Nat.mul_one, List.map_take, hF]
  rw [e] at h1
  rw [trimF_len, hF]
  exact h1
theorem trim_own {w0 w : World} {ps : List Piece} {g n c : Nat} {F : List Int} (least : Nat) (h : Own w0 w (slc 3 1 (.slice (some ⟨g, 0, none⟩) n c) n (nums F) :: ps)) (hF : F.length = n) (hn : n ≤ 1000000) (hl : least ≤ 1000000) :
    Calls Try.prog 59 #[.slice (some ⟨g, 0, none⟩) n c, .int .i64 least] w (Ret fun r w' => r = .slice (some ⟨g, 0, none⟩) (trimF F least).length c ∧ Own w0 w' (slc 3 1 (.slice (some ⟨g, 0, none⟩) (trimF F least).length c) (trimF F least).length (nums (trimF F least)) :: ps)) := by
  refine (trim_any least h.rd hn hl).mono ?_
  rintro e w' ⟨v, rfl, rfl, h1⟩
  exact ⟨_, rfl, by rw [trimF_len, hF], (h.join h1).trimmed least hF⟩
theorem order_any (w : World) : Calls Try.prog 61 #[] w (Ret fun r w' => r = .agg (nums (ordF.map Int.ofNat)).toArray ∧ Own w w' []) := by
  have H := (Own.start w).alloc (.cells #[.int .i64 0, .int .i64 0, .int .i64 0, .int .i64 0, .int .i64 0, .int .i64 0, .int .i64 0, .int .i64 0, .int .i64 0, .int .i64 0, .int .i64 0, .int .i64 0, .int .i64 0, .int .i64 0, .int .i64 0, .int .i64 0, .int .i64 0, .int .i64 0, .int .i64 0] 101)
  go_enter Try.func61, Try.ntmps61
  go_upto_region 1 with (fail)
  generalize w.alloc _ = w1 at *
  generalize w.heap.size = g at *
  go_wp2_with (refine wpList_store_agg (vs := nums (ordF.map Int.ofNat)) (cur' := (nums (ordF.map Int.ofNat)).toArray) rfl _ _ rfl rfl H rfl (by kernel_rfl) (by simp [nums, ordF]) (by simp [nums, ordF, Value.oneCell']) rfl ?_; clear H; intro w5 H)
  refine bodyPost_ret (results_cell1 rfl _ _ g _ rfl (run_loadVar_row w5 g _ _ _ _ _ H.block.1 Try.underlying101 rfl (by kernel_rfl))) rfl ?_
  exact ⟨_, rfl, rfl, H.bare⟩

theorem made_freq (rs : List Run) (k : Nat) (r : Run) (h : rs[k]? = some r) : runFq (rs.take (k + 1)) = bump1 (runFq (rs.take k)) r.sym := by
  unfold runFq
  rw [List.take_add_one, h, List.map_append]
  exact bumpF_snoc _ _ _
theorem runB_succ {ls : List Int} {rs : List Run} {k : Nat} {r : Run} (h : rs[k]? = some r) : runsB ls (rs.take (k + 1)) = runsB ls (rs.take k) ++ runB ls r := by
  unfold runsB
  rw [List.take_add_one, h, List.flatMap_append]
  simp
theorem lensB_succ {l : List Int} {k : Nat} (h : k < l.length) : lensB (l.take (k + 1)) = lensB (l.take k) ++ bitsOf (l.getD k 0) 3 := by
  unfold lensB
  rw [List.take_add_one, getD_get h, List.flatMap_append]
  simp
theorem run_cells {w : World} {b o c i n : Nat} {l : List Run} {r : Run} (h : Rd w 3 (.slice (some ⟨b, o, none⟩) n c) n (rows rcell l)) (ht : l[i]? = some r) :
    w.cell? ⟨b, o + i * 3, none⟩ = some (.int .i64 r.sym) ∧ w.cell? ⟨b, o + i * 3 + 1, none⟩ = some (.int .i64 r.n) ∧ w.cell? ⟨b, o + i * 3 + 2, none⟩ = some (.int .i64 r.v) := by
  have h0 := h.cell ((rows_get rcell rcell_length ht 0 (by omega)).trans rfl)
  have h1 := h.cell ((rows_get rcell rcell_length ht 1 (by omega)).trans rfl)
  have h2 := h.cell ((rows_get rcell rcell_length ht 2 (by omega)).trans rfl)
  exact ⟨h0, h1, h2⟩
end Go.Proofs.Ytpbodonmiepilaa
/- flate: the walk of the fixed codes' lengths. -/
namespace Go.Proofs.Ytpbodonmiepilaa
open Go.RowKit

theorem fixL_flat : [List.replicate 144 (8 : Int), List.replicate 112 9, List.replicate 24 7, List.replicate 8 8].flatten = fixL := by
  simp only [List.flatten_cons, List.flatten_nil, List.append_nil]; unfold fixL; simp only [List.append_assoc]
theorem one_row {w : World} {g : Nat} {a : Int} (h : w.heap[g]? = some (.cells #[.int .i64 a] 3)) : Rd w 1 (.slice (some ⟨g, 0, none⟩) 1 1) 1 (nums [a]) := by
  refine ⟨rfl, _, _, rfl, Nat.le_refl _, by decide, by simp, fun ad had j u hu => ?_⟩
  obtain rfl := Option.some.inj had
  rw [Addr.add_lit, Nat.zero_add, cell_of_block h]
  have : j = 0 := by have := (List.getElem?_eq_some_iff.1 hu).1; simpa [nums] using this
  subst this
  exact hu

set_option maxRecDepth 100000 in
set_option maxHeartbeats 3200000 in
theorem fixed_any (w : World) : Calls Try.prog 35 #[] w (Ret fun r w' => ∃ v u, r = .tuple #[v, u] ∧ Own w w' [slc 3 1 u 32 (nums fixD), slc 3 1 v 288 (nums fixL)]) := by
  have H := Own.start w
  go_enter Try.func35, Try.ntmps35
  go_wp2_with fail
  refine (repeat_any 144 (one_row (H.alloc (.cells #[.int .i64 8] 3)).block.1) (by omega)).mono ?_
  rintro e w1 ⟨v1, rfl, H1⟩
  have H := (H.alloc (.cells #[.int .i64 8] 3)).drop.join H1
  obtain ⟨a1, c1, rfl, -⟩ := H.rd.shape
  clear H1
  go_wp2_with fail
  refine (repeat_any 112 (one_row (H.alloc (.cells #[.int .i64 9] 3)).block.1) (by omega)).mono ?_
  rintro e w2 ⟨v2, rfl, H2⟩
  have H := (H.alloc (.cells #[.int .i64 9] 3)).drop.join H2
  obtain ⟨a2, c2, rfl, -⟩ := H.rd.shape
  clear H2
  go_wp2_with fail
  refine (repeat_any 24 (one_row (H.alloc (.cells #[.int .i64 7] 3)).block.1) (by omega)).mono ?_
  rintro e w3 ⟨v3, rfl, H3⟩
  have H := (H.alloc (.cells #[.int .i64 7] 3)).drop.join H3
  obtain ⟨a3, c3, rfl, -⟩ := H.rd.shape
  clear H3
  go_wp2_with fail
  refine (repeat_any 8 (one_row (H.alloc (.cells #[.int .i64 8] 3)).block.1) (by omega)).mono ?_
  rintro e w4 ⟨v4, rfl, H4⟩
  have H := (H.alloc (.cells #[.int .i64 8] 3)).drop.join H4
  obtain ⟨a4, c4, rfl, -⟩ := H.rd.shape
  clear H4
  go_wp2_with fail
  have H5 := H.alloc (.cells #[.slice a1 144 c1, .slice a2 112 c2, .slice a3 24 c3, .slice a4 8 c4] 22)
  have hrow : Rd (w4.alloc (.cells #[.slice a1 144 c1, .slice a2 112 c2, .slice a3 24 c3, .slice a4 8 c4] 22)) 1 (.slice (some ⟨w4.heap.size, 0, none⟩) 4 4) 4 [.slice a1 144 c1, .slice a2 112 c2, .slice a3 24 c3, .slice a4 8 c4] := by
    refine ⟨rfl, _, _, rfl, Nat.le_refl _, by decide, by simp, fun ad had j u hu => ?_⟩
    obtain rfl := Option.some.inj had
    rw [Addr.add_lit, Nat.zero_add, H5.cell]
    simpa using hu
  have h8 := (H5.front 1 rfl).rd
  have h24 := (H5.front 2 rfl).rd
  have h112 := (H5.front 3 rfl).rd
  have h144 := (H5.front 4 rfl).rd
  have hcc := concat_any [List.replicate 144 (8 : Int), List.replicate 112 9, List.replicate 24 7, List.replicate 8 8] [.slice a1 144 c1, .slice a2 112 c2, .slice a3 24 c3, .slice a4 8 c4] hrow rfl rfl (by omega) (fun k u L hu hL => by
    match k with
    | 0 => cases hu; cases hL; exact h144
    | 1 => cases hu; cases hL; exact h112
    | 2 => cases hu; cases hL; exact h24
    | 3 => cases hu; cases hL; exact h8
    | k + 4 => cases hu) (by rw [fixL_flat, fixL_ok.1]; omega)
  rw [fixL_flat, fixL_ok.1] at hcc
  refine hcc.mono ?_
  rintro e w5 ⟨v5, rfl, H6⟩
  have H := H5.bare.join H6
  obtain ⟨a5, c5, rfl, -⟩ := H.rd.shape
  clear H6 H5 hcc hrow h8 h24 h112 h144
  go_wp2_with fail
  refine (repeat_any 32 (one_row (H.alloc (.cells #[.int .i64 5] 3)).block.1) (by omega)).mono ?_
  rintro e w6 ⟨v6, rfl, H6⟩
  have H := (H.alloc (.cells #[.int .i64 5] 3)).drop.join H6
  obtain ⟨a6, c6, rfl, -⟩ := H.rd.shape
  clear H6
  go_wp2_with fail
  go_ret2
  exact ⟨_, rfl, _, _, rfl, H⟩
end Go.Proofs.Ytpbodonmiepilaa
/- A map of the call's own whose elements are ints (0 where there is none): a look-up, a store, a delete. No program in sight. -/
namespace Go.Proofs.Ytpbodonmiepilaa
open Go.RowKit Go.Maps
open Go.WideElems (Fit rg)

/-- The entries, as a datum. -/
def mdat (P : Program) (K E : TypeId) (es : Array MapEntry) : DataW Unit := .map ((es.toList.map (rg P K (plainElem (H := Unit) P E))).foldr DataW.insert [])
/-- A map: by its keys (those that a's are), ints; at most n entries. -/
def mpi (P : Program) (K E : TypeId) {α : Type} (enc : α → Value) (b n : Nat) (g : α → Int) : Piece := fun h =>
  ∃ es clock, h = [(b, .map es clock)] ∧ Fit P K (plainElem (H := Unit) P E) es clock ∧ es.size ≤ n ∧ ∀ a kl, keyOf P K (enc a) = some kl → (mdat P K E es).atKey kl (.lit (.int .i64 0)) = .lit (.int .i64 (g a))

section
variable {P : Program} {K E t : TypeId} {α : Type} {enc : α → Value} {b n : Nat} {g : α → Int} {w0 w : World} {ps : List Piece}
variable [DecidableEq α]
end

section
variable {P : Program} {K E t : TypeId} {α : Type} {enc : α → Value} {b n : Nat} {g : α → Int} {w0 w : World} {ps : List Piece} [DecidableEq α]
variable {ops : Array Oper} {rest : List Oper} {o : Oper} {act : Act} {Q : Exit → Act → World → Prop}
end
end Go.Proofs.Ytpbodonmiepilaa
/- lz: the map's keys, three bytes. -/
namespace Go.Proofs.Ytpbodonmiepilaa
open Go.RowKit Go.Maps Go.ChangeShapes Go.WideShapes

/-- Three bytes, as a key. -/
def k3 (k : UInt8 × UInt8 × UInt8) : Value := .agg #[.int .u8 k.1.toNat, .int .u8 k.2.1.toNat, .int .u8 k.2.2.toNat]
end Go.Proofs.Ytpbodonmiepilaa
/- lz: the walks of the finder's parts that only look. -/
namespace Go.Proofs.Ytpbodonmiepilaa
open Go.RowKit

set_option maxRecDepth 100000 in
theorem byt_is {s : ByteArray} {i : Nat} (h : i < s.size) : s[i] = byt s i := by
  unfold byt
  simp [Array.getD, h]
  rfl

end Go.Proofs.Ytpbodonmiepilaa
/- A look-up in a map of ints, in a region that draws its order. -/
namespace Go.Proofs.Ytpbodonmiepilaa
open Go.RowKit Go.Maps

section
variable {P : Program} {ops : Array Oper} {S : Sig → World → Prop} {nw : List Nat} {R : Act → Prop} {a : Act} {o : Oper} {rest : List Oper} {i : Nat}
variable {K E t : TypeId} {α : Type} {enc : α → Value} {b n : Nat} {g : α → Int} {w0 : World}
end
end Go.Proofs.Ytpbodonmiepilaa
/- lz: the walks of put and find. -/
namespace Go.Proofs.Ytpbodonmiepilaa
open Go.RowKit Go.Maps

/-- What the map has. -/
def gOf (s : ByteArray) (i : Nat) : UInt8 × UInt8 × UInt8 → Int := fun k => (prev s k i : Int)
structure Backs (s : ByteArray) (i : Nat) (xs : List Int) : Prop where
  len : xs.length = s.size
  get : ∀ q, q < i → q + 3 ≤ s.size → xs[q]? = some (prev s (key3 s q) q : Int)
/-- A finder that noted the places ahead of i. -/
def Fnd (g : Nat) (s : ByteArray) (i : Nat) : Piece := ex fun p : Nat × Value × List Int =>
  star (blk g (.cells #[.string s, .map (some p.1), p.2.1] 84)) (star (mpi Try.prog 113 3 k3 p.1 i (gOf s i)) (star (slc 3 1 p.2.1 s.size (nums p.2.2)) (fact (Backs s i p.2.2))))
section
variable {w0 w : World} {ps : List Piece} {g b i : Nat} {s : ByteArray} {xs : List Int} {v : Value}
end
end Go.Proofs.Ytpbodonmiepilaa
/- lz: the walk of find. -/
namespace Go.Proofs.Ytpbodonmiepilaa
open Go.RowKit Go.Maps

end Go.Proofs.Ytpbodonmiepilaa
/- lz: the walk of Parse. -/
namespace Go.Proofs.Ytpbodonmiepilaa
open Go.RowKit Go.Maps

set_option maxRecDepth 100000 in
theorem tokInfo : (Try.prog.info? 46).map (fun i => (i.zero, i.size, i.bytes)) = some (some (tval ⟨0, 0, 0⟩), 3, 24) := by kernel_rfl

end Go.Proofs.Ytpbodonmiepilaa
/- Bits: a new writer. -/
namespace Go.Proofs.Ytpbodonmiepilaa
open Go.RowKit

theorem alloc_heap_size' (w : World) (o : Obj) : (w.alloc o).heap.size = w.heap.size + 1 := Array.size_push ..
/-- A new writer. -/
theorem Own.newWtr {w0 w : World} {ps : List Piece} (H : Own w0 w ps) : Own w0 (w.alloc (.cells #[.slice none 0 0, .int .i64 0] 56)) (Wtr w.heap.size [] :: ps) := by
  have h := (H.alloc (.cells #[.slice none 0 0, .int .i64 0] 56)).nil 5 1
  exact Own.unwtr (n := 0) h.swap rfl rfl rfl
end Go.Proofs.Ytpbodonmiepilaa
/- Bits: Writer.Bytes. -/
namespace Go.Proofs.Ytpbodonmiepilaa
open Go.RowKit

end Go.Proofs.Ytpbodonmiepilaa
/- flate: the walks of a block by the fixed codes; of Simple. -/
namespace Go.Proofs.Ytpbodonmiepilaa
open Go.RowKit

theorem fix_sym {t : Tok} (h : TokOk t) : SymOk fixL fixD t := by
  refine ⟨h, fun h0 => ?_, fun h0 => ?_⟩
  · rw [fixL_ok.1]; rcases h with h | h <;> omega
  · have h1 : 3 ≤ t.len ∧ t.len ≤ 258 ∧ 1 ≤ t.dist ∧ t.dist ≤ 32768 := by rcases h with h | h <;> omega
    have h2 := lenSym_bd (n := t.len.toNat) (by omega)
    have h3 := distSym_bd (n := t.dist.toNat) (by omega)
    rw [fixL_ok.1, fixD_ok.1]
    omega
theorem fixL_wt : sumF wtF fixL ≤ 2 ^ 15 := (table_ok fixL_ok.2.2).2.2
theorem fixD_wt : sumF wtF fixD ≤ 2 ^ 15 := (table_ok fixD_ok.2.2).2.2
theorem parse_ok (s : ByteArray) : ∀ t ∈ parse s, TokOk t := by
  have key : ∀ f i, ∀ t ∈ parseN s f i, TokOk t := by
    intro f
    induction f with
    | zero => intro i t h; simp [parseN] at h
    | succ f ih =>
      intro i t h
      rw [parseN] at h
      split at h
      · rcases List.mem_cons.1 h with rfl | h
        · exact may_ok (n := i) tokAt_may
        · exact ih _ t h
      · simp at h
  exact key _ _
theorem parse_len (s : ByteArray) : (parse s).length ≤ s.size := by
  have key : ∀ f i, (parseN s f i).length ≤ f := by
    intro f
    induction f with
    | zero => intro i; simp [parseN]
    | succ f ih =>
      intro i
      rw [parseN]
      split
      · have := ih (i + stepAt s i); simp; omega
      · simp
  exact key _ _
theorem blockB_le {l : List Tok} (ht : ∀ t ∈ l, TokOk t) (last : Bool) : (blockB l 1 last).length ≤ 48 * l.length + 18 := by
  unfold blockB
  rw [if_pos rfl, List.length_append]
  have := bodyB_le fixL_bd fixD_bd ht
  simp [headB, bitsOf_length]
  omega

set_option maxRecDepth 100000 in
set_option maxHeartbeats 3200000 in
theorem block1_any {w0 w : World} {ps : List Piece} {g : Nat} {bs : List Bool} {tv : Value} {l : List Tok} (last : Bool) (ht : Reads w0 ps 3 tv l.length (rows tcell l)) (hs : ∀ t ∈ l, TokOk t) (H : Own w0 w (Wtr g bs :: ps)) (hl : bs.length + 48 * l.length ≤ 35184372070000) :
    Calls Try.prog 24 #[.pointer (some ⟨g, 0, none⟩), tv, .int .i64 1, .bool last] w (Ret fun _ w' => Own w0 w' (Wtr g (bs ++ blockB l 1 last) :: ps)) := by
  obtain ⟨ta, tc, rfl, ht1, ht2⟩ := (ht w H.drop).shape
  have h1 := head_any last 1 (by omega) H (by omega)
  have hB : Hid (bs ++ blockB l 1 last = bs ++ headB last 1 ++ bodyB fixL fixD l) := Lib.hid (by unfold blockB; rw [if_pos rfl, List.append_assoc])
  have hBl : (bs ++ headB last 1).length ≤ bs.length + 3 := by rw [List.length_append]; simp [headB, bitsOf_length]
  rw [hB.out]
  obtain ⟨B, hB2⟩ : ∃ B, Hid (bs ++ headB last 1 = B) := ⟨_, rfl⟩
  rw [hB2.out] at h1 hBl ⊢
  obtain ⟨N, hN⟩ : ∃ N, Hid (l.length = N) := ⟨_, rfl⟩
  have HS := Lib.hid hs
  have H1 := Lib.hid h1
  have HT := Lib.hid ht
  rw [hN.out] at hl ht1 HT ⊢
  clear h1 hs ht
  go_enter Try.func24, Try.ntmps24
  go_wp2_with fail
  refine H1.out.mono ?_
  rintro e w1 ⟨_, rfl, H2⟩
  clear H
  go_wp2_with fail
  refine (fixed_any _).mono ?_
  rintro e w2 ⟨_, rfl, v, u, rfl, H3⟩
  have H := H2.join H3
  clear H2 H3
  obtain ⟨av, cv, rfl, -⟩ := (H.front 1 rfl).rd.shape
  obtain ⟨au, cu, rfl, -⟩ := (H.front 0 rfl).rd.shape
  go_wp2_with fail
  refine (made_any (H.front 1 rfl).rd (by omega) fixL_ok.2.1).mono ?_
  rintro e w3 ⟨_, rfl, vc, rfl, H3⟩
  replace H := H.join H3
  clear H3
  obtain ⟨a5, c5, rfl, -⟩ := (H.front 0 rfl).rd.shape
  go_wp2_with fail
  refine (made_any (H.front 1 rfl).rd (by omega) fixD_ok.2.1).mono ?_
  rintro e w4 ⟨_, rfl, uc, rfl, H3⟩
  replace H := H.join H3
  clear H3
  obtain ⟨a6, c6, rfl, -⟩ := (H.front 0 rfl).rd.shape
  rw [fixL_ok.1, fixD_ok.1] at H
  have H : Own w0 w4 (Wtr g B :: slc 3 1 (.slice a6 32 c6) 32 (nums (codesF fixD)) :: slc 3 1 (.slice a5 288 c5) 288 (nums (codesF fixL)) :: slc 3 1 (.slice au 32 cu) 32 (nums fixD) :: slc 3 1 (.slice av 288 cv) 288 (nums fixL) :: ps) := H.front 4 rfl
  have hL : CodOk w0 (slc 3 1 (.slice a6 32 c6) 32 (nums (codesF fixD)) :: slc 3 1 (.slice a5 288 c5) 288 (nums (codesF fixL)) :: slc 3 1 (.slice au 32 cu) 32 (nums fixD) :: slc 3 1 (.slice av 288 cv) 288 (nums fixL) :: ps) (.slice av 288 cv) (.slice a5 288 c5) fixL := ⟨fun w' h => by rw [fixL_ok.1]; exact (h.front 3 rfl).rd, fun w' h => by rw [fixL_ok.1]; exact (h.front 1 rfl).rd, fixL_bd, fixL_wt, by rw [fixL_ok.1]; omega⟩
  have hD : CodOk w0 (slc 3 1 (.slice a6 32 c6) 32 (nums (codesF fixD)) :: slc 3 1 (.slice a5 288 c5) 288 (nums (codesF fixL)) :: slc 3 1 (.slice au 32 cu) 32 (nums fixD) :: slc 3 1 (.slice av 288 cv) 288 (nums fixL) :: ps) (.slice au 32 cu) (.slice a6 32 c6) fixD := ⟨fun w' h => by rw [fixD_ok.1]; exact (h.front 2 rfl).rd, fun w' h => by rw [fixD_ok.1]; exact h.rd, fixD_bd, fixD_wt, by rw [fixD_ok.1]; omega⟩
  have hb := body_any hL hD (l := l) (tv := .slice ta N tc) (by rw [hN.out]; exact HT.out.mono fun w' h => h.drop.drop.drop.drop) (fun t h => fix_sym (HS.out t h)) (by rw [fixL_ok.1]; omega) H (by rw [hN.out]; omega)
  have HB := Lib.hid hb
  clear hb hL hD
  go_wp2_with fail
  refine HB.out.mono ?_
  rintro e w5 ⟨_, rfl, H5⟩
  go_wp2_with fail
  go_end0
  exact ⟨_, rfl, (((((H5.front 4 rfl).front 4 rfl).front 4 rfl).front 4 rfl).drop.drop.drop.drop)⟩
/-- The text packed by the fixed codes. -/
def simpleF (s : ByteArray) : ByteArray := textOf (blockB (parse s) 1 true)
end Go.Proofs.Ytpbodonmiepilaa
/- flate: the walk of rich. -/
namespace Go.Proofs.Ytpbodonmiepilaa
open Go.RowKit

set_option maxRecDepth 100000 in
set_option maxHeartbeats 25600000 in
theorem rich_any {w0 w : World} {ps : List Piece} {g : Nat} {bs : List Bool} {tv : Value} {l : List Tok} (last : Bool) (ht : Reads w0 ps 3 tv l.length (rows tcell l)) (hs : ∀ t ∈ l, TokOk t) (hln : l.length ≤ 1000000) (H : Own w0 w (Wtr g bs :: ps)) (hl : bs.length + 48 * l.length ≤ 35184372000000) :
    Calls Try.prog 38 #[.pointer (some ⟨g, 0, none⟩), tv, .bool last] w (Ret fun _ w' => Own w0 w' (Wtr g (bs ++ blockB l 2 last) :: ps)) := by
  obtain ⟨ta, tc, rfl, ht1, ht2⟩ := (ht w H.drop).shape
  obtain ⟨L, hL⟩ : ∃ L, Hid (richL l = L) := ⟨_, Lib.hid rfl⟩
  obtain ⟨D, hD⟩ : ∃ D, Hid (richD l = D) := ⟨_, Lib.hid rfl⟩
  obtain ⟨RS, hRS⟩ : ∃ RS, Hid (richR l = RS) := ⟨_, Lib.hid rfl⟩
  obtain ⟨RL, hRL⟩ : ∃ RL, Hid (runL RS = RL) := ⟨_, Lib.hid rfl⟩
  obtain ⟨SO, hSO⟩ : ∃ SO, Hid (sortedF RL = SO) := ⟨_, Lib.hid rfl⟩
  have mL := richL_made hs hln
  have mD := richD_made hs hln
  have okR := richR_ok hs hln
  have lenR := richR_len hs hln
  have oks : ∀ t ∈ l, SymOk (richL l) (richD l) t := fun t h => rich_sym hs hln h
  have oL := lit_ok hs hln
  have oD := dist_ok hs hln
  have hB : Hid (bs ++ blockB l 2 last = bs ++ headB last 2 ++ (sizesB L.length D.length SO.length ++ (lensB SO ++ (runsB RL RS ++ bodyB L D l)))) := Lib.hid (by
    unfold blockB richB
    rw [if_neg (by omega), hRS.out, hRL.out, hSO.out, hL.out, hD.out, List.append_assoc])
  rw [hB.out]
  rw [hRS.out] at okR lenR
  have mR := runL_made okR (by omega)
  have m7 := sorted_7 okR (by omega)
  have mS := sorted_len RL
  have oR := run_ok okR (by omega)
  rw [hL.out] at mL oks
  rw [hD.out] at mD oks
  rw [hRL.out] at mR m7
  rw [hSO.out] at m7 mS
  obtain ⟨N, hN⟩ : ∃ N, Hid (l.length = N) := ⟨_, Lib.hid rfl⟩
  have HS := Lib.hid hs
  have HT := Lib.hid ht
  have ML := Lib.hid mL
  have MD := Lib.hid mD
  have MR := Lib.hid mR
  have M7 := Lib.hid m7
  have OKR := Lib.hid okR
  have OKS := Lib.hid oks
  have OL := Lib.hid oL
  have OD := Lib.hid oD
  have OR := Lib.hid oR
  obtain ⟨hS1, hS2⟩ := mS
  have k0 := fun w1 h => counted2_any (ht w1 h) hs hln
  rw [hN.out] at HT ht1 hl hln k0 ⊢
  have K0 := Lib.hid k0
  clear hs ht mL mD okR oks oL oD mR m7 oR k0
  go_enter Try.func38, Try.ntmps38
  go_wp2_with fail
  refine (K0.out _ H.drop).mono ?_
  rintro e w1 ⟨_, rfl, v1, u1, rfl, J⟩
  replace H := H.join J
  clear J
  obtain ⟨a1, c1, rfl, -⟩ := H.rd.shape
  obtain ⟨a2, c2, rfl, -⟩ := (H.front 1 rfl).rd.shape
  have kl := lengths_any (L := 15) H.rd (by omega)
  have hel : errF (litFq l) 15 = 0 := errF_ok (by omega) (by rw [litFq_len]; omega) OL.out.freq (by rw [litFq_len]; decide)
  have hed : errF (distFq l) 15 = 0 := errF_ok (by omega) (by rw [distFq_len]; omega) OD.out.freq (by rw [distFq_len]; decide)
  rw [hel] at kl
  have KL := Lib.hid kl
  clear kl hel
  go_wp2_with fail
  refine KL.out.mono ?_
  rintro e w2 ⟨_, rfl, v3, rfl, J⟩
  replace H := H.join J
  clear J KL
  have kd := lengths_any (L := 15) (H.front 2 rfl).rd (by omega)
  rw [hed] at kd
  have KD := Lib.hid kd
  clear kd hed
  rw [OL.out.len, litFq_len] at H
  obtain ⟨g3, c3, rfl, -⟩ := H.at (by rw [nums_length, OL.out.len, litFq_len]; omega)
  go_wp2_with fail
  refine KD.out.mono ?_
  rintro e w3 ⟨_, rfl, v4, rfl, J⟩
  replace H := H.join J
  clear J KD
  rw [OD.out.len, distFq_len] at H
  obtain ⟨g4, c4, rfl, -⟩ := H.at (by rw [nums_length, OD.out.len, distFq_len]; omega)
  have H : Own w0 w3 (slc 3 1 (.slice (some ⟨g3, 0, none⟩) 286 c3) 286 (nums (resF (litFq l) 15)) :: slc 3 1 (.slice (some ⟨g4, 0, none⟩) 30 c4) 30 (nums (resF (distFq l) 15)) :: Wtr g bs :: ps) := ((((H.front 1 rfl).front 3 rfl).front 3 rfl).drop.drop)
  have kt := fun w1 (h : Own w0 w1 (slc 3 1 (.slice (some ⟨g3, 0, none⟩) 286 c3) 286 (nums (resF (litFq l) 15)) :: slc 3 1 (.slice (some ⟨g4, 0, none⟩) 30 c4) 30 (nums (resF (distFq l) 15)) :: Wtr g bs :: ps)) => trim_own 257 h (by rw [OL.out.len, litFq_len]) (by omega) (by omega)
  have kt2 := fun w1 (qs : List Piece) (h : Own w0 w1 (slc 3 1 (.slice (some ⟨g4, 0, none⟩) 30 c4) 30 (nums (resF (distFq l) 15)) :: qs)) => trim_own 1 h (by rw [OD.out.len, distFq_len]) (by omega) (by omega)
  rw [show trimF (resF (litFq l) 15) 257 = L from hL.out] at kt
  have hD2 : trimF (resF (distFq l) 15) 1 = D := hD.out
  simp only [hD2] at kt2
  have KT := Lib.hid kt
  have KT2 := Lib.hid kt2
  clear kt kt2 hD2
  go_wp2_with fail
  refine (KT.out _ H).mono ?_
  rintro e w4 ⟨_, rfl, rfl, H4⟩
  clear H
  go_wp2_with fail
  refine (KT2.out _ _ H4.swap).mono ?_
  rintro e w5 ⟨_, rfl, rfl, H⟩
  clear H4 KT KT2
  obtain ⟨nL, hnL⟩ : ∃ n, Hid (L.length = n) := ⟨_, Lib.hid rfl⟩
  obtain ⟨nD, hnD⟩ : ∃ n, Hid (D.length = n) := ⟨_, Lib.hid rfl⟩
  have hnL1 := ML.out.lo
  have hnL2 := ML.out.hi
  have hnD1 := MD.out.lo
  have hnD2 := MD.out.hi
  rw [hnL.out] at H hnL1 hnL2 ⊢
  rw [hnD.out] at H hnD1 hnD2 ⊢
  go_wp2_with fail
  have H5 := H.alloc (.cells #[.slice (some ⟨g3, 0, none⟩) nL c3, .slice (some ⟨g4, 0, none⟩) nD c4] 22)
  have hrow : Rd (w5.alloc (.cells #[.slice (some ⟨g3, 0, none⟩) nL c3, .slice (some ⟨g4, 0, none⟩) nD c4] 22)) 1 (.slice (some ⟨w5.heap.size, 0, none⟩) 2 2) 2 [.slice (some ⟨g3, 0, none⟩) nL c3, .slice (some ⟨g4, 0, none⟩) nD c4] := by
    refine ⟨rfl, _, _, rfl, Nat.le_refl _, by decide, by simp, fun ad had j u hu => ?_⟩
    obtain rfl := Option.some.inj had
    rw [Addr.add_lit, Nat.zero_add, H5.cell]
    simpa using hu
  have hcc := concat_any [L, D] [.slice (some ⟨g3, 0, none⟩) nL c3, .slice (some ⟨g4, 0, none⟩) nD c4] hrow rfl rfl (by omega) (fun k u X hu hX => by
    match k with
    | 0 => cases hu; cases hX; rw [hnL.out]; exact (H5.front 2 rfl).rd
    | 1 => cases hu; cases hX; rw [hnD.out]; exact (H5.front 1 rfl).rd
    | k + 2 => cases hu) (by simp [hnL.out, hnD.out]; omega)
  have hfl : [L, D].flatten = L ++ D := by simp
  have hfll : (L ++ D).length = nL + nD := by rw [List.length_append, hnL.out, hnD.out]
  rw [hfl, hfll] at hcc
  have HCC := Lib.hid hcc
  have H6 : Own w0 (w5.alloc (.cells #[.slice (some ⟨g3, 0, none⟩) nL c3, .slice (some ⟨g4, 0, none⟩) nD c4] 22)) (slc 3 1 (.slice (some ⟨g3, 0, none⟩) nL c3) nL (nums L) :: slc 3 1 (.slice (some ⟨g4, 0, none⟩) nD c4) nD (nums D) :: Wtr g bs :: ps) := (H5.drop).swap
  clear hcc hrow H5 H hfl hfll
  generalize w5.alloc _ = w6 at *
  generalize w5.heap.size = gr at *
  refine HCC.out.mono ?_
  rintro e w7 ⟨v7, rfl, J⟩
  have H := H6.join J
  clear J HCC H6
  have hrn := runs_any H.rd (by omega)
  rw [show runsF (L ++ D) = RS by rw [← hRS.out, ← hL.out, ← hD.out]; rfl] at hrn
  have HRN := Lib.hid hrn
  clear hrn
  obtain ⟨a7, c7, rfl, -⟩ := H.rd.shape
  obtain ⟨nR, hnR⟩ : ∃ n, Hid (RS.length = n) := ⟨_, Lib.hid rfl⟩
  rw [hnR.out] at HRN lenR
  go_wp2_with fail
  refine HRN.out.mono ?_
  rintro e w8 ⟨v8, rfl, J⟩
  have H8 := H.join J
  clear J HRN H
  obtain ⟨a8, c8, rfl, -⟩ := H8.rd.shape
  have H : Own w0 w8 (slc 100 3 (.slice a8 nR c8) nR (rows rcell RS) :: slc 3 1 (.slice (some ⟨g3, 0, none⟩) nL c3) nL (nums L) :: slc 3 1 (.slice (some ⟨g4, 0, none⟩) nD c4) nD (nums D) :: Wtr g bs :: ps) := ((H8.front 1 rfl).drop)
  clear H8
  have hmk : ∀ w : World, (Instr.makeSlice 22 (.int .i64 19) (.int .i64 19)).run Try.prog w = .ok (.slice (some ⟨w.heap.size, 0, none⟩) 19 19) (w.alloc (.cells (madeCells #[.int .i64 0] 19) 3)) := run_make_row' _ _ _ 8 Try.underlying22 intInfo rfl .i64 .i64 19 (by omega) (by omega)
  go_upto_region 6 with (fail)
  have h9 := (H.alloc (.cells (madeCells #[.int .i64 0] 19) 3)).slc_mk (xs := nums (runFq (RS.take 0))) (n := 19) (size := 1) (by rw [nums_length, runFq_len]) (Nat.le_refl _) (by simp [maxLen]) (by simp [size_madeCells]) (by rw [toList_madeCells_one]; rfl)
  clear H hmk
  generalize w8.alloc _ = w9 at *
  generalize w8.heap.size = gf at *
  have H := h9
  clear h9
  go_wp2_with fail
  go_loopw [53] (fun s53 wx => ∃ k : Nat, s53 = .int .i64 k ∧ k ≤ nR ∧ Own w0 wx (slc 3 1 (.slice (some ⟨gf, 0, none⟩) 19 19) 19 (nums (runFq (RS.take k))) :: slc 100 3 (.slice a8 nR c8) nR (rows rcell RS) :: slc 3 1 (.slice (some ⟨g3, 0, none⟩) nL c3) nL (nums L) :: slc 3 1 (.slice (some ⟨g4, 0, none⟩) nD c4) nD (nums D) :: Wtr g bs :: ps)) (fun s53 _ => nR - (intOf s53).toNat)
  case atStart => exact ⟨0, by go_num, by omega, H⟩
  case round =>
    clear H
    obtain ⟨k, rfl, hk, H⟩ := hrel
    by_cases hlt : k < nR
    · have hI : (k : Int) < (nR : Int) := by omega
      obtain ⟨t, htk⟩ := get_of_lt (l := RS) (k := k) (by rw [hnR.out]; exact hlt)
      have hok := OKR.out t (List.mem_of_getElem? htk)
      have hls := made_freq RS k t htk
      obtain ⟨b, o, _, he2, -⟩ := (H.front 1 rfl).rd.some (by rw [rows_length rcell rcell_length, hnR.out]; omega)
      cases he2
      obtain ⟨c0, cc1, cc2⟩ := run_cells (H.front 1 rfl).rd htk
      have hkl : Hid (∀ j, 0 ≤ (runFq (RS.take k)).getD j 0 ∧ (runFq (RS.take k)).getD j 0 ≤ 100000) := Lib.hid (fun j => by
        rw [runFq_get (fun r h => OKR.out r (List.mem_of_mem_take h))]
        have := List.countP_le_length (p := fun x : Int => decide (x = (j : Int))) (l := (RS.take k).map Run.sym)
        rw [List.length_map, List.length_take] at this
        omega)
      have hfl := runFq_len (RS.take k)
      obtain ⟨hsy, -, -⟩ := hok
      obtain ⟨x, y, z⟩ := t
      simp only at c0 cc1 cc2 hsy hls
      obtain ⟨s, rfl⟩ : ∃ s : Nat, x = s := ⟨x.toNat, by omega⟩
      have hst := nums_bump (runFq (RS.take k)) s
      rw [← hls] at hst
      have cf := H.getc (nums_get (getD_get (F := runFq (RS.take k)) (i := s) (by omega)))
      have hb := hkl.out s
      obtain ⟨v, hv⟩ : ∃ v, (runFq (RS.take k)).getD s 0 = v := ⟨_, rfl⟩
      rw [hv] at hb cf hst
      have hw : IntKind.i64.wrap (v + 1) = v + 1 := IntWalk.i64_in _ ⟨by omega, by omega⟩
      have hsI : (s : Int) < 19 := by omega
      have HST := Lib.hid hst
      have hs19 : s < 19 := by omega
      have CF := Lib.hid (show (nums (runFq (RS.take k)))[s]? = some (.int .i64 v) by rw [← hv]; exact nums_get (getD_get (by omega)))
      clear htk hls hkl hfl hv hst cf
      go_upto_region 9 with (refine wpList_store_agg (vs := [.int .i64 s, .int .i64 y, .int .i64 z]) rfl _ _ rfl rfl (H.alloc _) rfl (by kernel_rfl) (by simp) (by simp; exact ⟨rfl, rfl, rfl⟩) rfl ?_; clear c0 cc1 cc2; intro w10 H10)
      clear H
      generalize wr.heap.size = tb at *
      have c0 := H10.cells
      have cf := (H10.front 1 rfl).getc CF.out
      go_wp2_with (refine wpList_store_slc rfl _ _ rfl rfl (H10.front 1 rfl) (.int .i64 (v + 1)) rfl (by kernel_rfl) hs19 rfl ?_; clear H10 c0 cf; intro w11 H; rw [HST.out] at H)
      go_roundw
      case rel => exact ⟨k + 1, by go_num, by omega, H.swap.drop⟩
      case measure => simp [intOf]; omega
    · obtain rfl : k = nR := by omega
      have hI : ¬ (k : Int) < (k : Int) := by omega
      have htk : RS.take k = RS := List.take_of_length_le (by rw [hnR.out]; exact Nat.le_refl _)
      rw [htk] at H
      have kl := lengths_any (L := 7) H.rd (by omega)
      have hel : errF (runFq RS) 7 = 0 := errF_ok (by omega) (by rw [runFq_len]; omega) OR.out.freq (by rw [runFq_len]; decide)
      have hrl : resF (runFq RS) 7 = RL := hRL.out
      have hrll : RL.length = 19 := by have := MR.out.lo; have := MR.out.hi; omega
      rw [hel, hrl, hrll] at kl
      have KL := Lib.hid kl
      have HRLL := Lib.hid hrll
      clear kl hel hrl htk hrll
      go_wp2_with fail
      refine KL.out.mono ?_
      rintro e w12 ⟨_, rfl, v5, rfl, J⟩
      replace H := H.join J
      clear J KL
      obtain ⟨g5, c5, rfl, -⟩ := H.at (by rw [nums_length, HRLL.out]; omega)
      have H : Own w0 w12 (slc 3 1 (.slice (some ⟨g5, 0, none⟩) 19 c5) 19 (nums RL) :: slc 100 3 (.slice a8 k c8) k (rows rcell RS) :: slc 3 1 (.slice (some ⟨g3, 0, none⟩) nL c3) nL (nums L) :: slc 3 1 (.slice (some ⟨g4, 0, none⟩) nD c4) nD (nums D) :: Wtr g bs :: ps) := ((H.front 1 rfl).drop)
      go_wp2_with fail
      refine (order_any _).mono ?_
      rintro e w13 ⟨_, rfl, rfl, J⟩
      have H : Own w0 w13 (slc 3 1 (.slice (some ⟨g5, 0, none⟩) 19 c5) 19 (nums RL) :: slc 100 3 (.slice a8 k c8) k (rows rcell RS) :: slc 3 1 (.slice (some ⟨g3, 0, none⟩) nL c3) nL (nums L) :: slc 3 1 (.slice (some ⟨g4, 0, none⟩) nD c4) nD (nums D) :: Wtr g bs :: ps) := H.join J
      clear J
      have hord : Hid (∀ j, j < 19 → (nums (ordF.map Int.ofNat)).toArray[j]? = some (.int .i64 ((ordF.getD j 0 : Nat) : Int)) ∧ ordF.getD j 0 < 19) := Lib.hid (fun j hj => by
        have := (show ∀ j : Fin 19, ordF.getD j.1 0 < 19 ∧ (ordF.map Int.ofNat)[j.1]? = some ((ordF.getD j.1 0 : Nat) : Int) by decide) ⟨j, hj⟩
        refine ⟨?_, this.1⟩
        rw [List.getElem?_toArray]
        exact nums_get this.2)
      have hordl : Hid ((nums (ordF.map Int.ofNat)).toArray.size = 19) := Lib.hid rfl
      generalize (nums (ordF.map Int.ofNat)).toArray = OA at *
      replace H := H.nil 3 1
      go_wp2_with fail
      obtain ⟨MO, hMO0⟩ : ∃ MO, Hid ((ordF.map fun s => RL.getD s 0) = MO) := ⟨_, Lib.hid rfl⟩
      have hMO : Hid (MO.length = 19) := Lib.hid (by rw [← hMO0.out, List.length_map]; rfl)
      have hMg : Hid (∀ j, j < 19 → MO.getD j 0 = RL.getD (ordF.getD j 0) 0) := Lib.hid (fun j hj => by
        rw [← hMO0.out, List.getD_eq_getElem?_getD, List.getElem?_map, List.getD_eq_getElem?_getD (l := ordF)]
        rw [List.getElem?_eq_getElem (show j < ordF.length from hj)]
        rfl)
      have hSO2 : Hid (trimF MO 4 = SO) := Lib.hid (by rw [← hMO0.out]; exact hSO.out)
      go_loopw [18, 71] (fun s18 s71 wx => ∃ i : Nat, s71 = .int .i64 i ∧ i ≤ 19 ∧ Own w0 wx (slc 3 1 s18 i (nums (MO.take i)) :: slc 3 1 (.slice (some ⟨g5, 0, none⟩) 19 c5) 19 (nums RL) :: slc 100 3 (.slice a8 k c8) k (rows rcell RS) :: slc 3 1 (.slice (some ⟨g3, 0, none⟩) nL c3) nL (nums L) :: slc 3 1 (.slice (some ⟨g4, 0, none⟩) nD c4) nD (nums D) :: Wtr g bs :: ps)) (fun _ s71 _ => 19 - (intOf s71).toNat)
      case atStart => exact ⟨0, by go_num, by omega, H⟩
      case round =>
        clear H
        obtain ⟨i, rfl, hi, H⟩ := hrel
        obtain ⟨a9, c9, rfl, -⟩ := H.rd.shape
        by_cases hi19 : i < 19
        · have hiI : (i : Int) < 19 := by omega
          obtain ⟨ho1, ho2⟩ := hord.out i hi19
          have hmg := hMg.out i hi19
          have hsn : Hid (nums (MO.take i) ++ [.int .i64 (MO.getD i 0)] = nums (MO.take (i + 1))) := Lib.hid (by
            rw [List.take_add_one, getD_get (by rw [hMO.out]; exact hi19)]; simp [nums])
          have cr := (H.front 1 rfl).getc (nums_get (getD_get (F := RL) (i := ordF.getD i 0) (by rw [HRLL.out]; exact ho2)))
          rw [← hmg] at cr
          have hix : ∀ w, (Instr.index 101 (.agg OA) (.int .i64 i)).run Try.prog w = .ok (.int .i64 ((ordF.getD i 0 : Nat) : Int)) w := fun w => run_index_arr _ _ 19 OA i _ w Try.underlying101 (fun w => (int_one w).1) (fun w => (int_one w).2) hi19 ho1
          have ho2I : ((ordF.getD i 0 : Nat) : Int) < 19 := by omega
          obtain ⟨oj, hoj⟩ : ∃ oj, ordF.getD i 0 = oj := ⟨_, rfl⟩
          obtain ⟨mv, hmv⟩ : ∃ mv, MO.getD i 0 = mv := ⟨_, rfl⟩
          rw [hoj] at ho1 ho2 ho2I cr hix
          rw [hmv] at hsn cr
          clear hoj hmv
          clear hmg
          go_wp2_with (at_builtin; refine wpList_append_one rfl _ _ rfl Try.underlying22 intInfo rfl (by decide) rfl H (news := [.int .i64 mv]) rfl rfl rfl (by simp [Value.oneCell']) (by omega) (by omega) ?_; clear H cr; intro v' w' H; rw [hsn.out] at H; obtain ⟨a10, c10, rfl, -⟩ := H.rd.shape)
          go_roundw
          case rel => exact ⟨i + 1, by go_num, by omega, H⟩
          case measure => simp [intOf]; omega
        · obtain rfl : i = 19 := by omega
          have hiI : ¬ (((19 : Nat) : Int) < 19) := by omega
          rw [List.take_of_length_le (by rw [hMO.out]; exact Nat.le_refl _)] at H
          obtain ⟨g6, c6, he6, -⟩ := H.at (by rw [nums_length, hMO.out]; omega)
          cases he6
          have kt := fun w1 (h : Own w0 w1 (slc 3 1 (.slice (some ⟨g6, 0, none⟩) 19 c9) 19 (nums MO) :: slc 3 1 (.slice (some ⟨g5, 0, none⟩) 19 c5) 19 (nums RL) :: slc 100 3 (.slice a8 k c8) k (rows rcell RS) :: slc 3 1 (.slice (some ⟨g3, 0, none⟩) nL c3) nL (nums L) :: slc 3 1 (.slice (some ⟨g4, 0, none⟩) nD c4) nD (nums D) :: Wtr g bs :: ps)) => trim_own 4 h hMO.out (by omega) (by omega)
          rw [hSO2.out] at kt
          have KT := Lib.hid kt
          clear kt
          go_wp2_with fail
          refine (KT.out _ H).mono ?_
          rintro e w14 ⟨_, rfl, rfl, H14⟩
          clear H KT
          obtain ⟨nS, hnS⟩ : ∃ n, Hid (SO.length = n) := ⟨_, Lib.hid rfl⟩
          rw [hnS.out] at H14 hS1 hS2 ⊢
          have H : Own w0 w14 (Wtr g bs :: slc 3 1 (.slice (some ⟨g6, 0, none⟩) nS c9) nS (nums SO) :: slc 3 1 (.slice (some ⟨g5, 0, none⟩) 19 c5) 19 (nums RL) :: slc 100 3 (.slice a8 k c8) k (rows rcell RS) :: slc 3 1 (.slice (some ⟨g3, 0, none⟩) nL c3) nL (nums L) :: slc 3 1 (.slice (some ⟨g4, 0, none⟩) nD c4) nD (nums D) :: ps) := H14.front 5 rfl
          clear H14
          go_wp2_with fail
          have k1 := fun w1 h => head_any (w := w1) (w0 := w0) (ps := slc 3 1 (.slice (some ⟨g6, 0, none⟩) nS c9) nS (nums SO) :: slc 3 1 (.slice (some ⟨g5, 0, none⟩) 19 c5) 19 (nums RL) :: slc 100 3 (.slice a8 k c8) k (rows rcell RS) :: slc 3 1 (.slice (some ⟨g3, 0, none⟩) nL c3) nL (nums L) :: slc 3 1 (.slice (some ⟨g4, 0, none⟩) nD c4) nD (nums D) :: ps) (g := g) (bs := bs) last 2 (by omega) h (by omega)
          obtain ⟨W1, hW1⟩ : ∃ W, Hid (bs ++ headB last 2 = W) := ⟨_, Lib.hid rfl⟩
          have hW1l : W1.length = bs.length + 3 := by rw [← hW1.out, List.length_append]; simp [headB, bitsOf_length]
          rw [hW1.out] at k1
          have e1 : (nL : Int) - 256 - 1 = (nL : Int) - 257 := by omega
          have k2 := fun w1 h => put_any (w := w1) (w0 := w0) (ps := slc 3 1 (.slice (some ⟨g6, 0, none⟩) nS c9) nS (nums SO) :: slc 3 1 (.slice (some ⟨g5, 0, none⟩) 19 c5) 19 (nums RL) :: slc 100 3 (.slice a8 k c8) k (rows rcell RS) :: slc 3 1 (.slice (some ⟨g3, 0, none⟩) nL c3) nL (nums L) :: slc 3 1 (.slice (some ⟨g4, 0, none⟩) nD c4) nD (nums D) :: ps) (g := g) (bs := W1) ((nL : Int) - 256 - 1) 5 (by omega) (by omega) h (by omega)
          have k3 := fun w1 h => put_any (w := w1) (w0 := w0) (ps := slc 3 1 (.slice (some ⟨g6, 0, none⟩) nS c9) nS (nums SO) :: slc 3 1 (.slice (some ⟨g5, 0, none⟩) 19 c5) 19 (nums RL) :: slc 100 3 (.slice a8 k c8) k (rows rcell RS) :: slc 3 1 (.slice (some ⟨g3, 0, none⟩) nL c3) nL (nums L) :: slc 3 1 (.slice (some ⟨g4, 0, none⟩) nD c4) nD (nums D) :: ps) (g := g) (bs := W1 ++ bitsOf ((nL : Int) - 257) 5) ((nD : Int) - 1) 5 (by omega) (by omega) h (by rw [List.length_append, bitsOf_length]; omega)
          have k4 := fun w1 h => put_any (w := w1) (w0 := w0) (ps := slc 3 1 (.slice (some ⟨g6, 0, none⟩) nS c9) nS (nums SO) :: slc 3 1 (.slice (some ⟨g5, 0, none⟩) 19 c5) 19 (nums RL) :: slc 100 3 (.slice a8 k c8) k (rows rcell RS) :: slc 3 1 (.slice (some ⟨g3, 0, none⟩) nL c3) nL (nums L) :: slc 3 1 (.slice (some ⟨g4, 0, none⟩) nD c4) nD (nums D) :: ps) (g := g) (bs := W1 ++ bitsOf ((nL : Int) - 257) 5 ++ bitsOf ((nD : Int) - 1) 5) ((nS : Int) - 4) 4 (by omega) (by omega) h (by rw [List.length_append, List.length_append, bitsOf_length, bitsOf_length]; omega)
          rw [show cut 5 = 5 from rfl, e1] at k2
          rw [show cut 5 = 5 from rfl] at k3
          rw [show cut 4 = 4 from rfl] at k4
          obtain ⟨W2, hW2⟩ : ∃ W, Hid (W1 ++ bitsOf ((nL : Int) - 257) 5 ++ bitsOf ((nD : Int) - 1) 5 ++ bitsOf ((nS : Int) - 4) 4 = W) := ⟨_, Lib.hid rfl⟩
          have hW2l : W2.length = bs.length + 17 := by rw [← hW2.out]; simp only [List.length_append, bitsOf_length]; omega
          have hW2b : Hid (W1 ++ sizesB nL nD nS = W2) := Lib.hid (by rw [← hW2.out]; unfold sizesB; simp only [List.append_assoc])
          rw [hW2.out] at k4
          have hw1 : IntKind.i64.wrap ((nL : Int) - 256) = (nL : Int) - 256 := IntWalk.i64_in _ ⟨by omega, by omega⟩
          have hw2 : IntKind.i64.wrap ((nL : Int) - 256 - 1) = (nL : Int) - 257 := by rw [e1]; exact IntWalk.i64_in _ ⟨by omega, by omega⟩
          have hw3 : IntKind.i64.wrap ((nD : Int) - 1) = (nD : Int) - 1 := IntWalk.i64_in _ ⟨by omega, by omega⟩
          have hw4 : IntKind.i64.wrap ((nS : Int) - 4) = (nS : Int) - 4 := IntWalk.i64_in _ ⟨by omega, by omega⟩
          have K1 := Lib.hid k1
          have K2 := Lib.hid k2
          have K3 := Lib.hid k3
          have K4 := Lib.hid k4
          clear k1 k2 k3 k4 e1
          refine (K1.out _ H).mono ?_
          rintro e w15 ⟨_, rfl, H15⟩
          clear H
          go_wp2_with fail
          refine (K2.out _ H15).mono ?_
          rintro e w16 ⟨_, rfl, H⟩
          clear H15
          go_wp2_with fail
          refine (K3.out _ H).mono ?_
          rintro e w17 ⟨_, rfl, H17⟩
          clear H
          go_wp2_with fail
          refine (K4.out _ H17).mono ?_
          rintro e w18 ⟨_, rfl, H⟩
          clear H17 K1 K2 K3 K4 hw1 hw2 hw3 hw4
          go_wp2_with fail
          go_loopw [105] (fun s105 wx => ∃ j : Nat, s105 = .int .i64 j ∧ j ≤ nS ∧ Own w0 wx (Wtr g (W2 ++ lensB (SO.take j)) :: slc 3 1 (.slice (some ⟨g6, 0, none⟩) nS c9) nS (nums SO) :: slc 3 1 (.slice (some ⟨g5, 0, none⟩) 19 c5) 19 (nums RL) :: slc 100 3 (.slice a8 k c8) k (rows rcell RS) :: slc 3 1 (.slice (some ⟨g3, 0, none⟩) nL c3) nL (nums L) :: slc 3 1 (.slice (some ⟨g4, 0, none⟩) nD c4) nD (nums D) :: ps)) (fun s105 _ => nS - (intOf s105).toNat)
          case atStart => exact ⟨0, by go_num, by omega, by simpa [lensB] using H⟩
          case round =>
            clear H
            obtain ⟨j, rfl, hj, H⟩ := hrel
            have hll : (lensB (SO.take j)).length ≤ 3 * 19 := by
              have h1 := flat_le (f := fun n => bitsOf n 3) (b := 3) (SO.take j) (fun x _ => by rw [bitsOf_length]; exact Nat.le_refl _)
              rw [List.length_take] at h1
              unfold lensB
              omega
            by_cases hjl : j < nS
            · have hjI : (j : Int) < (nS : Int) := by omega
              have hjS : j < SO.length := by rw [hnS.out]; exact hjl
              have cs := (H.front 1 rfl).getc (nums_get (getD_get hjS))
              have hx7 := M7.out _ (mem_getD2 hjS)
              have hsn : Hid (W2 ++ lensB (SO.take (j + 1)) = W2 ++ lensB (SO.take j) ++ bitsOf (SO.getD j 0) 3) := Lib.hid (by rw [lensB_succ hjS, List.append_assoc])
              obtain ⟨xv, hxv⟩ : ∃ xv, SO.getD j 0 = xv := ⟨_, rfl⟩
              rw [hxv] at cs hx7 hsn
              have k1 := fun w1 h => put_any (w := w1) (w0 := w0) (ps := slc 3 1 (.slice (some ⟨g6, 0, none⟩) nS c9) nS (nums SO) :: slc 3 1 (.slice (some ⟨g5, 0, none⟩) 19 c5) 19 (nums RL) :: slc 100 3 (.slice a8 k c8) k (rows rcell RS) :: slc 3 1 (.slice (some ⟨g3, 0, none⟩) nL c3) nL (nums L) :: slc 3 1 (.slice (some ⟨g4, 0, none⟩) nD c4) nD (nums D) :: ps) (g := g) (bs := W2 ++ lensB (SO.take j)) xv 3 (by omega) (by omega) h (by rw [List.length_append]; omega)
              rw [show cut 3 = 3 from rfl, ← hsn.out] at k1
              have K1 := Lib.hid k1
              clear k1 hxv hll
              go_wp2_with fail
              refine (K1.out _ H).mono ?_
              rintro e w19 ⟨_, rfl, H19⟩
              clear H cs
              go_wp2_with fail
              go_roundw
              case rel => exact ⟨j + 1, by go_num, by omega, H19⟩
              case measure => simp [intOf]; omega
            · obtain rfl : j = nS := by omega
              have hjI : ¬ (j : Int) < (j : Int) := by omega
              rw [List.take_of_length_le (by rw [hnS.out]; exact Nat.le_refl _)] at H hll
              obtain ⟨W3, hW3⟩ : ∃ W, Hid (W2 ++ lensB SO = W) := ⟨_, Lib.hid rfl⟩
              have hW3l : W3.length ≤ bs.length + 74 := by rw [← hW3.out, List.length_append]; omega
              rw [hW3.out] at H
              have km := fun w1 h => made_any (w := w1) (v := .slice (some ⟨g5, 0, none⟩) 19 c5) (n := 19) (L := RL) h (by omega) MR.out.cerr
              rw [HRLL.out] at km
              have KM := Lib.hid km
              clear km hll
              go_wp2_with fail
              refine (KM.out _ (H.front 2 rfl).rd).mono ?_
              rintro e w20 ⟨_, rfl, u11, rfl, J⟩
              replace H := H.join J
              clear J KM
              obtain ⟨a11, c11, rfl, -⟩ := H.rd.shape
              go_upto_region 29 with (refine wpList_store_agg (vs := [.slice (some ⟨g5, 0, none⟩) 19 c5, .slice a11 19 c11]) rfl _ _ rfl rfl (H.alloc _) rfl (by kernel_rfl) (by simp) (by simp; exact ⟨rfl, rfl⟩) rfl ?_; intro w21 H21)
              clear H
              generalize w20.heap.size = gc at *
              have H : Own w0 w21 (Wtr g W3 :: blk gc (.cells #[.slice (some ⟨g5, 0, none⟩) 19 c5, .slice a11 19 c11] 75) :: slc 3 1 (.slice a11 19 c11) 19 (nums (codesF RL)) :: slc 3 1 (.slice (some ⟨g6, 0, none⟩) j c9) j (nums SO) :: slc 3 1 (.slice (some ⟨g5, 0, none⟩) 19 c5) 19 (nums RL) :: slc 100 3 (.slice a8 k c8) k (rows rcell RS) :: slc 3 1 (.slice (some ⟨g3, 0, none⟩) nL c3) nL (nums L) :: slc 3 1 (.slice (some ⟨g4, 0, none⟩) nD c4) nD (nums D) :: ps) := H21.front 2 rfl
              clear H21
              have hco : CodOk w0 (blk gc (.cells #[.slice (some ⟨g5, 0, none⟩) 19 c5, .slice a11 19 c11] 75) :: slc 3 1 (.slice a11 19 c11) 19 (nums (codesF RL)) :: slc 3 1 (.slice (some ⟨g6, 0, none⟩) j c9) j (nums SO) :: slc 3 1 (.slice (some ⟨g5, 0, none⟩) 19 c5) 19 (nums RL) :: slc 100 3 (.slice a8 k c8) k (rows rcell RS) :: slc 3 1 (.slice (some ⟨g3, 0, none⟩) nL c3) nL (nums L) :: slc 3 1 (.slice (some ⟨g4, 0, none⟩) nD c4) nD (nums D) :: ps) (.slice (some ⟨g5, 0, none⟩) 19 c5) (.slice a11 19 c11) RL := ⟨fun w' h => by rw [HRLL.out]; exact (h.front 3 rfl).rd, fun w' h => by rw [HRLL.out]; exact (h.front 1 rfl).rd, MR.out.all, MR.out.wt, by rw [HRLL.out]; omega⟩
              have HCO := Lib.hid hco
              have hbdR : ∀ m, (runsB RL (RS.take m)).length ≤ 22 * 632 := fun m => by
                have h1 := flat_le (f := runB RL) (b := 22) (RS.take m) (fun r hr => by
                  have h2 := cbits_le MR.out.all r.sym.toNat
                  have h3 := (OKR.out r (List.mem_of_mem_take hr)).n
                  unfold runB
                  rw [List.length_append, bitsOf_length]
                  omega)
                rw [List.length_take] at h1
                unfold runsB
                have := hnR.out
                omega
              have HBR := Lib.hid hbdR
              clear hco hbdR
              go_wp2_with fail
              go_loopw [117] (fun s117 wx => ∃ m : Nat, s117 = .int .i64 m ∧ m ≤ k ∧ Own w0 wx (Wtr g (W3 ++ runsB RL (RS.take m)) :: blk gc (.cells #[.slice (some ⟨g5, 0, none⟩) 19 c5, .slice a11 19 c11] 75) :: slc 3 1 (.slice a11 19 c11) 19 (nums (codesF RL)) :: slc 3 1 (.slice (some ⟨g6, 0, none⟩) j c9) j (nums SO) :: slc 3 1 (.slice (some ⟨g5, 0, none⟩) 19 c5) 19 (nums RL) :: slc 100 3 (.slice a8 k c8) k (rows rcell RS) :: slc 3 1 (.slice (some ⟨g3, 0, none⟩) nL c3) nL (nums L) :: slc 3 1 (.slice (some ⟨g4, 0, none⟩) nD c4) nD (nums D) :: ps)) (fun s117 _ => k - (intOf s117).toNat)
              case atStart => exact ⟨0, by go_num, by omega, by simpa [runsB] using H⟩
              case round =>
                clear H
                obtain ⟨m, rfl, hm, H⟩ := hrel
                have hbl := HBR.out m
                by_cases hmk : m < k
                · have hmI : (m : Int) < (k : Int) := by omega
                  obtain ⟨t, htk⟩ := get_of_lt (l := RS) (k := m) (by rw [hnR.out]; exact hmk)
                  have hok := OKR.out t (List.mem_of_getElem? htk)
                  have hps := runL_pos OKR.out (by rw [hnR.out]; omega) (List.mem_of_getElem? htk)
                  rw [hRL.out] at hps
                  obtain ⟨b, o, _, he2, -⟩ := (H.front 5 rfl).rd.some (by rw [rows_length rcell rcell_length, hnR.out]; omega)
                  cases he2
                  obtain ⟨c0, cc1, cc2⟩ := run_cells (H.front 5 rfl).rd htk
                  have hsn := runB_succ (ls := RL) htk
                  unfold runB at hsn
                  obtain ⟨hsy, hrn1, hrv⟩ := hok
                  obtain ⟨x, y, z⟩ := t
                  simp only at c0 cc1 cc2 hsy hrn1 hrv hps hsn
                  obtain ⟨x, rfl⟩ : ∃ s : Nat, x = s := ⟨x.toNat, by omega⟩
                  obtain ⟨y, rfl⟩ : ∃ s : Nat, y = s := ⟨y.toNat, by omega⟩
                  simp only [Int.toNat_natCast] at hps hsn hrv
                  have hxl := pos_lt hps
                  have hz128 : z < 128 := by
                    have : (2 : Int) ^ y ≤ 2 ^ 7 := pow2_le (by omega)
                    omega
                  have hsn2 : Hid (W3 ++ runsB RL (RS.take (m + 1)) = W3 ++ runsB RL (RS.take m) ++ cbits RL x ++ bitsOf z y) := Lib.hid (by rw [hsn]; simp only [List.append_assoc])
                  obtain ⟨WB, hWB⟩ : ∃ W, Hid (W3 ++ runsB RL (RS.take m) = W) := ⟨_, Lib.hid rfl⟩
                  have hWBl : WB.length ≤ bs.length + 14000 := by rw [← hWB.out, List.length_append]; omega
                  rw [hWB.out] at H hsn2
                  have hcx := cbits_le MR.out.all x
                  have k1 := fun (tb : Nat) w1 h => cput_any (w := w1) (HCO.out.mono (qs := blk tb (.cells #[.int .i64 (x : Int), .int .i64 (y : Int), .int .i64 z] 100) :: blk gc (.cells #[.slice (some ⟨g5, 0, none⟩) 19 c5, .slice a11 19 c11] 75) :: slc 3 1 (.slice a11 19 c11) 19 (nums (codesF RL)) :: slc 3 1 (.slice (some ⟨g6, 0, none⟩) j c9) j (nums SO) :: slc 3 1 (.slice (some ⟨g5, 0, none⟩) 19 c5) 19 (nums RL) :: slc 100 3 (.slice (some ⟨b, o, none⟩) k c8) k (rows rcell RS) :: slc 3 1 (.slice (some ⟨g3, 0, none⟩) nL c3) nL (nums L) :: slc 3 1 (.slice (some ⟨g4, 0, none⟩) nD c4) nD (nums D) :: ps) fun w' h => h.drop) hxl h (bs := WB) (g := g) (by omega)
                  have k2 := fun (tb : Nat) w1 h => put_any (w := w1) (w0 := w0) (ps := blk tb (.cells #[.int .i64 (x : Int), .int .i64 (y : Int), .int .i64 z] 100) :: blk gc (.cells #[.slice (some ⟨g5, 0, none⟩) 19 c5, .slice a11 19 c11] 75) :: slc 3 1 (.slice a11 19 c11) 19 (nums (codesF RL)) :: slc 3 1 (.slice (some ⟨g6, 0, none⟩) j c9) j (nums SO) :: slc 3 1 (.slice (some ⟨g5, 0, none⟩) 19 c5) 19 (nums RL) :: slc 100 3 (.slice (some ⟨b, o, none⟩) k c8) k (rows rcell RS) :: slc 3 1 (.slice (some ⟨g3, 0, none⟩) nL c3) nL (nums L) :: slc 3 1 (.slice (some ⟨g4, 0, none⟩) nD c4) nD (nums D) :: ps) (g := g) (bs := WB ++ cbits RL x) z (y : Int) (by omega) (by omega) h (by rw [List.length_append]; omega)
                  rw [cut_eq (by omega) (by omega), Int.toNat_natCast, ← hsn2.out] at k2
                  have K1 := Lib.hid k1
                  have K2 := Lib.hid k2
                  clear k1 k2 hsn hrv hps hbl htk hcx hxl
                  go_upto_region 32 with (refine wpList_store_agg (vs := [.int .i64 x, .int .i64 y, .int .i64 z]) rfl _ _ rfl rfl (H.alloc _) rfl (by kernel_rfl) (by simp) (by simp; exact ⟨rfl, rfl, rfl⟩) rfl ?_; clear c0 cc1 cc2; intro w22 H22)
                  clear H
                  generalize wr.heap.size = tb at *
                  have H : Own w0 w22 (Wtr g WB :: blk tb (.cells #[.int .i64 (x : Int), .int .i64 (y : Int), .int .i64 z] 100) :: blk gc (.cells #[.slice (some ⟨g5, 0, none⟩) 19 c5, .slice a11 19 c11] 75) :: slc 3 1 (.slice a11 19 c11) 19 (nums (codesF RL)) :: slc 3 1 (.slice (some ⟨g6, 0, none⟩) j c9) j (nums SO) :: slc 3 1 (.slice (some ⟨g5, 0, none⟩) 19 c5) 19 (nums RL) :: slc 100 3 (.slice (some ⟨b, o, none⟩) k c8) k (rows rcell RS) :: slc 3 1 (.slice (some ⟨g3, 0, none⟩) nL c3) nL (nums L) :: slc 3 1 (.slice (some ⟨g4, 0, none⟩) nD c4) nD (nums D) :: ps) := H22.swap
                  clear H22
                  have c0 := (H.front 1 rfl).cells
                  have cg := (H.front 2 rfl).cells
                  go_wp2_with fail
                  refine (K1.out _ _ H).mono ?_
                  rintro e w23 ⟨_, rfl, H23⟩
                  clear H c0 cg
                  have c0 := (H23.front 1 rfl).cells
                  go_wp2_with fail
                  refine (K2.out _ _ H23).mono ?_
                  rintro e w24 ⟨_, rfl, H24⟩
                  clear H23 c0
                  have H := (H24.front 1 rfl).drop
                  clear H24
                  go_wp2_with fail
                  go_roundw
                  case rel => exact ⟨m + 1, by go_num, by omega, H⟩
                  case measure => simp [intOf]; omega
                · obtain rfl : m = k := by omega
                  have hmI : ¬ (m : Int) < (m : Int) := by omega
                  rw [List.take_of_length_le (by rw [hnR.out]; exact Nat.le_refl _)] at H hbl
                  obtain ⟨W4, hW4⟩ : ∃ W, Hid (W3 ++ runsB RL RS = W) := ⟨_, Lib.hid rfl⟩
                  have hW4l : W4.length ≤ bs.length + 14000 := by rw [← hW4.out, List.length_append]; omega
                  rw [hW4.out] at H
                  have kL := fun w1 h => made_any (w := w1) (v := .slice (some ⟨g3, 0, none⟩) nL c3) (n := nL) (L := L) h (by omega) ML.out.cerr
                  have kD := fun w1 h => made_any (w := w1) (v := .slice (some ⟨g4, 0, none⟩) nD c4) (n := nD) (L := D) h (by omega) MD.out.cerr
                  rw [hnL.out] at kL
                  rw [hnD.out] at kD
                  have KL := Lib.hid kL
                  have KD := Lib.hid kD
                  clear kL kD hbl
                  go_wp2_with fail
                  refine (KL.out _ (H.front 6 rfl).rd).mono ?_
                  rintro e w25 ⟨_, rfl, u12, rfl, J⟩
                  replace H := H.join J
                  clear J KL
                  obtain ⟨a12, c12, rfl, -⟩ := H.rd.shape
                  go_wp2_with fail
                  refine (KD.out _ (H.front 8 rfl).rd).mono ?_
                  rintro e w26 ⟨_, rfl, u13, rfl, J⟩
                  replace H := H.join J
                  clear J KD
                  obtain ⟨a13, c13, rfl, -⟩ := H.rd.shape
                  have H : Own w0 w26 (Wtr g W4 :: slc 3 1 (.slice a13 nD c13) nD (nums (codesF D)) :: slc 3 1 (.slice a12 nL c12) nL (nums (codesF L)) :: slc 3 1 (.slice (some ⟨g3, 0, none⟩) nL c3) nL (nums L) :: slc 3 1 (.slice (some ⟨g4, 0, none⟩) nD c4) nD (nums D) :: ps) := (((((((H.front 2 rfl).front 7 rfl).front 7 rfl).front 7 rfl).front 7 rfl).front 7 rfl).drop.drop.drop.drop.drop)
                  have cokL : CodOk w0 (slc 3 1 (.slice a13 nD c13) nD (nums (codesF D)) :: slc 3 1 (.slice a12 nL c12) nL (nums (codesF L)) :: slc 3 1 (.slice (some ⟨g3, 0, none⟩) nL c3) nL (nums L) :: slc 3 1 (.slice (some ⟨g4, 0, none⟩) nD c4) nD (nums D) :: ps) (.slice (some ⟨g3, 0, none⟩) nL c3) (.slice a12 nL c12) L := ⟨fun w' h => by rw [hnL.out]; exact (h.front 2 rfl).rd, fun w' h => by rw [hnL.out]; exact (h.front 1 rfl).rd, ML.out.all, ML.out.wt, by rw [hnL.out]; omega⟩
                  have cokD : CodOk w0 (slc 3 1 (.slice a13 nD c13) nD (nums (codesF D)) :: slc 3 1 (.slice a12 nL c12) nL (nums (codesF L)) :: slc 3 1 (.slice (some ⟨g3, 0, none⟩) nL c3) nL (nums L) :: slc 3 1 (.slice (some ⟨g4, 0, none⟩) nD c4) nD (nums D) :: ps) (.slice (some ⟨g4, 0, none⟩) nD c4) (.slice a13 nD c13) D := ⟨fun w' h => by rw [hnD.out]; exact (h.front 3 rfl).rd, fun w' h => by rw [hnD.out]; exact h.rd, MD.out.all, MD.out.wt, by rw [hnD.out]; omega⟩
                  have kb := body_any cokL cokD (l := l) (tv := .slice ta N tc) (by rw [hN.out]; exact HT.out.mono fun w' h => h.drop.drop.drop.drop) OKS.out (by rw [hnL.out]; omega) H (by rw [hN.out]; omega)
                  have KB := Lib.hid kb
                  have hfin : Hid (bs ++ headB last 2 ++ (sizesB L.length D.length SO.length ++ (lensB SO ++ (runsB RL RS ++ bodyB L D l))) = W4 ++ bodyB L D l) := Lib.hid (by
                    rw [hnL.out, hnD.out, hnS.out, ← hW4.out, ← hW3.out, ← hW2b.out, ← hW1.out]
                    simp only [List.append_assoc])
                  clear kb cokL cokD
                  go_wp2_with fail
                  refine KB.out.mono ?_
                  rintro e w27 ⟨_, rfl, H27⟩
                  go_wp2_with fail
                  go_end0
                  rw [hfin.out]
                  exact ⟨_, rfl, (((((H27.front 4 rfl).front 4 rfl).front 4 rfl).front 4 rfl).drop.drop.drop.drop)⟩
end Go.Proofs.Ytpbodonmiepilaa
/- Bits: Writer.Align. -/
namespace Go.Proofs.Ytpbodonmiepilaa
open Go.RowKit

end Go.Proofs.Ytpbodonmiepilaa
/- Bits: Writer.Text. -/
namespace Go.Proofs.Ytpbodonmiepilaa
open Go.RowKit

end Go.Proofs.Ytpbodonmiepilaa
/- flate: the walk of Store. -/
namespace Go.Proofs.Ytpbodonmiepilaa
open Go.RowKit

def strLen : Value → Nat | .string t => t.size | _ => 0
def boolNum : Value → Nat | .bool true => 1 | _ => 0
/-- A chunk of a text as it is. -/
def chunkB (last : Bool) (t : ByteArray) (bs : List Bool) : List Bool := aligned (bs ++ headB last 0) ++ (bitsOf (t.size : Int) 16 ++ (bitsOf (65535 - (t.size : Int)) 16 ++ textBits t))
end Go.Proofs.Ytpbodonmiepilaa
/- flate: the walks of Block, Rich, Pack. -/
namespace Go.Proofs.Ytpbodonmiepilaa
open Go.RowKit

theorem blockB_ne {l : List Tok} {kind : Int} {last : Bool} (h : kind ≠ 1) : blockB l kind last = blockB l 2 last := by
  unfold blockB
  rw [if_neg h, if_neg (by omega)]
theorem block_any {w0 w : World} {ps : List Piece} {g : Nat} {bs : List Bool} {tv : Value} {l : List Tok} (kind : Int) (last : Bool) (ht : Reads w0 ps 3 tv l.length (rows tcell l)) (hs : ∀ t ∈ l, TokOk t) (hln : l.length ≤ 1000000) (H : Own w0 w (Wtr g bs :: ps)) (hl : bs.length + 48 * l.length ≤ 35184372000000) :
    Calls Try.prog 24 #[.pointer (some ⟨g, 0, none⟩), tv, .int .i64 kind, .bool last] w (Ret fun _ w' => Own w0 w' (Wtr g (bs ++ blockB l kind last) :: ps)) := by
  by_cases hk : kind = 1
  · subst hk
    exact block1_any last ht hs H (by omega)
  · have hkb : (kind == 1) = false := by simpa using hk
    rw [blockB_ne hk]
    obtain ⟨ta, tc, rfl, ht1, ht2⟩ := (ht w H.drop).shape
    have k1 := rich_any (g := g) (bs := bs) last ht hs hln H hl
    have K1 := Lib.hid k1
    clear k1 ht hs hk
    generalize l.length = N at *
    go_enter Try.func24, Try.ntmps24
    go_wp2_with fail
    refine K1.out.mono ?_
    rintro e w1 ⟨_, rfl, H2⟩
    go_wp2_with fail
    go_end0
    exact ⟨_, rfl, H2⟩
def richF (s : ByteArray) : ByteArray := textOf (blockB (parse s) 2 true)
/-- The shorter of two texts. -/
def shorter (a b : ByteArray) : ByteArray := if b.size < a.size then b else a
def packF (s : ByteArray) : ByteArray := shorter (shorter (textOf (storeF s)) (simpleF s)) (richF s)
end Go.Proofs.Ytpbodonmiepilaa
/- inflate: what is packed in each way is unpacked; the examples; plainly. No program in sight. -/
namespace Go.Proofs.Ytpbodonmiepilaa

/-- Bits that are unpacked as these bytes. -/
def Unp (bits : List Bool) (most : Int) (res : List Int) : Prop := ∀ bs r, At bs 0 (bits ++ r) → Steps bs most Inf.init ⟨bits.length, res, none, true⟩
theorem blockB_size {l : List Tok} (hl : ∀ t ∈ l, TokOk t) (hn : l.length ≤ 1000000) (kind : Int) (last : Bool) : (blockB l kind last).length ≤ 48 * l.length + 15000 := by
  by_cases hk : kind = 1
  · subst hk
    have := blockB_le hl last
    omega
  · unfold blockB
    rw [if_neg hk]
    unfold richB sizesB
    have h1 := bodyB_le (richL_made hl hn).all (richD_made hl hn).all hl
    have hok := richR_ok hl hn
    have hrl := richR_len hl hn
    have m7 := runL_made hok (by omega)
    have h2 := flat_le (f := runB (runL (richR l))) (b := 22) (richR l) (fun r hr => by
      have h3 := cbits_le m7.all r.sym.toNat
      have h4 := (hok r hr).n
      unfold runB
      rw [List.length_append, bitsOf_length]
      omega)
    have h5 : (sortedF (runL (richR l))).length ≤ 19 := by
      unfold sortedF
      rw [trimF_len]
      have := trimK_le' (ordF.map fun s => (runL (richR l)).getD s 0) 4 (ordF.map fun s => (runL (richR l)).getD s 0).length
      rw [List.length_map] at this ⊢
      have h6 : ordF.length = 19 := rfl
      omega
    have h7 := flat_le (f := fun n => bitsOf n 3) (b := 3) (sortedF (runL (richR l))) (fun r _ => by rw [bitsOf_length]; exact Nat.le_refl _)
    unfold lensB runsB
    simp only [headB, List.length_append, List.length_cons, bitsOf_length]
    omega
/-- A text that is packed in one of the four ways. -/
def Packed (s p : ByteArray) : Prop := ∃ bits, p = textOf bits ∧ Unp bits s.size (byteNums s) ∧ bits.length ≤ 48 * s.size + 20000
/-! ### the examples -/
def finB : Fin' → List Int → Nat → Bool
  | .ok o n, o', n' => decide (o = o') && decide (n = n')
  | _, _, _ => false
def finE : Fin' → Int → Bool
  | .err e, e' => decide (e = e')
  | _, _ => false
end Go.Proofs.Ytpbodonmiepilaa
/- inflate: tokens in several blocks, plainly; slices of tokens. -/
namespace Go.Proofs.Ytpbodonmiepilaa
open Go.RowKit

/-- Bits that are unpacked as a beginning of the tokens' text, and do not end there. -/
def Pre (most : Int) (l : List Tok) (k : Nat) (bits : List Bool) : Prop :=
  ∃ res, exp most (l.take k) [] = .ok res ∧ (res.length : Int) ≤ most ∧ ∀ bs r, At bs 0 (bits ++ r) → Steps bs most Inf.init ⟨bits.length, res, none, false⟩ ∧ At bs bits.length r
/-- A slice of what is read. -/
theorem Rd.sliced {w : World} {size n k m c : Nat} {a : Option Addr} {xs : List Value} (h : Rd w size (.slice a n c) n xs) (hk : k ≤ m) (hm : m ≤ n) :
    Rd w size (sliced a k m c size) (m - k) ((xs.take (m * size)).drop (k * size)) := by
  have h1 := h.take hm
  cases a with
  | none =>
    obtain ⟨hl, a, c', e, h1, h2, h3, h4⟩ := h
    cases e
    obtain ⟨rfl, rfl⟩ := h3 rfl
    obtain rfl : m = 0 := by omega
    obtain rfl : k = 0 := by omega
    obtain rfl : xs = [] := List.eq_nil_of_length_eq_zero (by simpa using hl)
    simpa [_root_.Go.sliced] using Rd.nil w size
  | some ad =>
    have h2 := h1.tail hk
    unfold _root_.Go.sliced
    by_cases hc : c = k
    · obtain ⟨hl, a, c', e, h1, h2, h3, h4⟩ := h
      cases e
      obtain rfl : m = k := by omega
      rw [if_pos hc, Nat.sub_self, List.drop_eq_nil_of_le (by rw [List.length_take]; omega)]
      exact ⟨by simp, _, _, rfl, by omega, by omega, by simp, fun ad _ j u hu => by simp at hu⟩
    · rw [if_neg hc]
      exact h2
theorem Reads.sliced {w0 : World} {ps : List Piece} {n k m c : Nat} {a : Option Addr} {l : List Tok} (h : Reads w0 ps 3 (.slice a n c) n (rows tcell l)) (hk : k ≤ m) (hm : m ≤ n) :
    Reads w0 ps 3 (sliced a k m c 3) (m - k) (rows tcell ((l.take m).drop k)) := fun w' h' => by
  have := (h w' h').sliced hk hm
  rw [rows_take tcell tcell_length, rows_drop tcell tcell_length] at this
  exact this
/-- What is packed, in however many bits. -/
def Packed2 (s p : ByteArray) : Prop := ∃ Bs, p = textOf Bs ∧ Unp Bs s.size (byteNums s)
end Go.Proofs.Ytpbodonmiepilaa
/- split: tokens in blocks up to cuts, plainly. No program in sight. -/
namespace Go.Proofs.Ytpbodonmiepilaa
open Go.RowKit

/-- What is amiss with a cut and a kind. -/
def wbad (N : Nat) (fr c k : Int) : Bool := decide (c < fr) || decide ((N : Int) < c) || decide (k < 1) || decide (2 < k)
/-- The bits of blocks up to each cut, or nothing. -/
def wloop (T : List Tok) : List (Int × Int) → Nat → List Bool → Option (List Bool)
  | [], _, bs => some bs
  | (c, k) :: r, fr, bs => if wbad T.length fr c k then none else wloop T r c.toNat (bs ++ blockB ((T.take c.toNat).drop fr) k r.isEmpty)
def wfalls (N : Nat) : List (Int × Int) → Int → Bool
  | [], _ => false
  | (c, k) :: r, fr => wbad N fr c k || wfalls N r c
theorem wbad_no {N : Nat} {fr c k : Int} (h : wbad N fr c k = false) : fr ≤ c ∧ c ≤ N ∧ 1 ≤ k ∧ k ≤ 2 := by
  unfold wbad at h
  simp only [Bool.or_eq_false_iff, decide_eq_false_iff_not] at h
  omega
end Go.Proofs.Ytpbodonmiepilaa
/- Bits: Writer.Len. -/
namespace Go.Proofs.Ytpbodonmiepilaa
open Go.RowKit

theorem len_any {w0 w : World} {ps : List Piece} {g : Nat} {bs : List Bool} (H : Own w0 w (Wtr g bs :: ps)) :
    Calls Try.prog 25 #[.pointer (some ⟨g, 0, none⟩)] w fun e w' => e = .returned (.int .i64 bs.length) ∧ w' = w := by
  obtain ⟨m, hm⟩ : ∃ m, Hid (bs.length = m) := ⟨_, rfl⟩
  obtain ⟨a, cp, hc1, hc2, H⟩ := H.wtr
  rw [hm.out] at H ⊢
  have c0 := H.cells
  go_enter Try.func25, Try.ntmps25
  go_wp2
  go_ret
  exact ⟨rfl, rfl⟩
end Go.Proofs.Ytpbodonmiepilaa
/- split: the walks of cost, Reverse. -/
namespace Go.Proofs.Ytpbodonmiepilaa
open Go.RowKit

/-- How many bits a block has, of the shorter kind; and that kind. -/
def cstF (Q : List Tok) : Nat := if (blockB Q 1 false).length ≤ (blockB Q 2 false).length then (blockB Q 1 false).length else (blockB Q 2 false).length
def kdF (Q : List Tok) : Int := if (blockB Q 1 false).length ≤ (blockB Q 2 false).length then 1 else 2
theorem blockB_last (Q : List Tok) (k : Int) (b : Bool) : (blockB Q k b).length = (blockB Q k false).length := by
  unfold blockB
  split
  · rw [List.length_append, List.length_append]; rfl
  · rw [List.length_append, List.length_append]; rfl
theorem cst_kd (Q : List Tok) : (blockB Q (kdF Q) false).length = cstF Q ∧ (kdF Q = 1 ∨ kdF Q = 2) := by
  unfold cstF kdF
  split
  · exact ⟨rfl, .inl rfl⟩
  · exact ⟨rfl, .inr rfl⟩
theorem cst_le (Q : List Tok) {k : Int} (hk : k = 1 ∨ k = 2) : cstF Q ≤ (blockB Q k false).length := by
  unfold cstF
  rcases hk with rfl | rfl <;> split <;> omega
theorem cst_pos (Q : List Tok) : 3 ≤ cstF Q := by
  have h : ∀ k, 3 ≤ (blockB Q k false).length := fun k => by
    unfold blockB headB
    split <;> simp [bitsOf_length] <;> omega
  unfold cstF
  split
  · exact h 1
  · exact h 2
set_option maxRecDepth 100000 in
set_option maxHeartbeats 1600000 in
theorem cost_any {w : World} {tv : Value} {Q : List Tok} (ht : Rd w 3 tv Q.length (rows tcell Q)) (hok : ∀ t ∈ Q, TokOk t) (hQ : Q.length ≤ 3000) :
    Calls Try.prog 22 #[tv] w (Ret fun r w' => r = .tuple #[.int .i64 (cstF Q), .int .i64 (kdF Q)] ∧ Own w w' []) := by
  have HR : Hid (∀ ps : List Piece, Reads w ps 3 tv Q.length (rows tcell Q)) := Lib.hid fun ps w' h => ht.old h
  obtain ⟨ta, tc, rfl, -⟩ := ht.shape
  have k1 := fun (w1 : World) (ps : List Piece) (g : Nat) (kd : Int) (h : Own w w1 (Wtr g [] :: ps)) => block_any (l := Q) kd false (HR.out ps) hok (by omega) h (by simp; omega)
  simp only [List.nil_append] at k1
  obtain ⟨N, hN⟩ : ∃ N, Hid (Q.length = N) := ⟨_, rfl⟩
  rw [hN.out] at k1 ⊢
  have hs1 := blockB_size hok (by omega) 1 false
  have hs2 := blockB_size hok (by omega) 2 false
  rw [hN.out] at hs1 hs2 hQ
  obtain ⟨X1, hX1⟩ : ∃ X, Hid (blockB Q 1 false = X) := ⟨_, rfl⟩
  obtain ⟨X2, hX2⟩ : ∃ X, Hid (blockB Q 2 false = X) := ⟨_, rfl⟩
  have hc : Hid (cstF Q = if X1.length ≤ X2.length then X1.length else X2.length) := Lib.hid (by unfold cstF; rw [hX1.out, hX2.out])
  have hd : Hid (kdF Q = if X1.length ≤ X2.length then 1 else 2) := Lib.hid (by unfold kdF; rw [hX1.out, hX2.out])
  rw [hX1.out] at hs1
  rw [hX2.out] at hs2
  have K1 := Lib.hid k1
  have H := Own.start w
  clear k1 ht
  have H2 := H.newWtr.newWtr
  rw [alloc_heap_size'] at H2
  go_enter Try.func22, Try.ntmps22
  go_upto_region 2 with (fail)
  generalize (w.alloc _).alloc _ = w2 at *
  generalize w.heap.size + 1 = g2 at *
  generalize w.heap.size = g1 at *
  replace H2 : Own w w2 (Wtr g1 [] :: Wtr g2 [] :: []) := H2.swap
  go_wp2_with fail
  refine (K1.out _ _ _ 1 H2).mono ?_
  rintro e w3 ⟨_, rfl, H3⟩
  rw [hX1.out] at H3
  go_wp2_with fail
  refine (K1.out _ _ _ 2 H3.swap).mono ?_
  rintro e w4 ⟨_, rfl, H4⟩
  rw [hX2.out] at H4
  clear H2 H3 K1 H
  have L1 := Lib.hid (len_any H4.swap)
  have L2 := Lib.hid (len_any H4)
  obtain ⟨n1, hn1⟩ : ∃ n, Hid (X1.length = n) := ⟨_, rfl⟩
  obtain ⟨n2, hn2⟩ : ∃ n, Hid (X2.length = n) := ⟨_, rfl⟩
  rw [hn1.out] at L1
  rw [hn2.out] at L2
  rw [hn1.out, hn2.out] at hc hd
  rw [hn1.out] at hs1
  rw [hn2.out] at hs2
  go_wp2_with fail
  refine L1.out.mono ?_
  rintro e w5 ⟨rfl, rfl⟩
  go_wp2_with fail
  refine L2.out.mono ?_
  rintro e w5 ⟨rfl, rfl⟩
  by_cases hle : n1 ≤ n2
  · have hI : (n1 : Int) ≤ (n2 : Int) := by omega
    have hc2 := hc.out
    have hd2 := hd.out
    rw [if_pos hle] at hc2 hd2
    replace hc2 := Lib.hid hc2
    replace hd2 := Lib.hid hd2
    clear hc hd hle
    go_wp2_with fail
    refine L1.out.mono ?_
    rintro e w5 ⟨rfl, rfl⟩
    go_wp2
    go_ret2
    exact ⟨_, rfl, by rw [hc2.out, hd2.out]; rfl, H4.bare⟩
  · have hI : ¬ (n1 : Int) ≤ (n2 : Int) := by omega
    have hc2 := hc.out
    have hd2 := hd.out
    rw [if_neg hle] at hc2 hd2
    replace hc2 := Lib.hid hc2
    replace hd2 := Lib.hid hd2
    clear hc hd hle
    go_wp2_with fail
    refine L2.out.mono ?_
    rintro e w5 ⟨rfl, rfl⟩
    go_wp2
    go_ret2
    exact ⟨_, rfl, by rw [hc2.out, hd2.out]; rfl, H4.bare⟩
end Go.Proofs.Ytpbodonmiepilaa
/- split: the walk of slices.Reverse. -/
namespace Go.Proofs.Ytpbodonmiepilaa
open Go.RowKit

/-- Turned round at both ends, so many. -/
def RevSt (xs L : List Int) (n i : Nat) : Prop := L.length = n ∧ ∀ k, k < n → L.getD k 0 = if k < i ∨ n - 1 - i < k then xs.getD (n - 1 - k) 0 else xs.getD k 0
theorem rev_start (xs : List Int) : RevSt xs xs xs.length 0 := ⟨rfl, fun k hk => by rw [if_neg (by omega)]⟩
theorem getD_set2 {L : List Int} {i k : Nat} {x : Int} (hi : i < L.length) : (L.set i x).getD k 0 = if k = i then x else L.getD k 0 := by
  rw [List.getD_eq_getElem?_getD, List.getD_eq_getElem?_getD, List.getElem?_set]
  by_cases h : i = k
  · subst h; simp [hi]
  · rw [if_neg h, if_neg (fun h' => h h'.symm)]
theorem rev_step {xs L : List Int} {n i j : Nat} (h : RevSt xs L n i) (hij : i < j) (hj : i + j + 1 = n) : RevSt xs ((L.set i (L.getD j 0)).set j (L.getD i 0)) n (i + 1) := by
  obtain ⟨h1, h2⟩ := h
  refine ⟨by rw [List.length_set, List.length_set, h1], fun k hk => ?_⟩
  rw [getD_set2 (by rw [List.length_set]; omega), getD_set2 (by omega)]
  by_cases hk1 : k = j
  · rw [if_pos hk1, if_pos (by omega), h2 i (by omega), if_neg (by omega), show n - 1 - k = i by omega]
  rw [if_neg hk1]
  by_cases hk2 : k = i
  · rw [if_pos hk2, if_pos (by omega), h2 j (by omega), if_neg (by omega), show n - 1 - k = j by omega]
  rw [if_neg hk2, h2 k hk]
  by_cases hk3 : k < i ∨ n - 1 - i < k
  · rw [if_pos hk3, if_pos (by omega)]
  · rw [if_neg hk3, if_neg (by omega)]
theorem rev_end {xs L : List Int} {n i : Nat} (h : RevSt xs L n i) (hx : xs.length = n) (hi : n ≤ 2 * i + 1) : L = xs.reverse := by
  obtain ⟨h1, h2⟩ := h
  refine List.ext_getElem? fun k => ?_
  by_cases hk : k < n
  · have h3 := h2 k hk
    rw [List.getElem?_reverse (by omega)]
    rw [List.getElem?_eq_getElem (by omega), List.getElem?_eq_getElem (by omega)]
    rw [List.getD_eq_getElem?_getD, List.getElem?_eq_getElem (by omega)] at h3
    simp only [Option.getD_some] at h3
    rw [h3]
    congr 1
    split
    · rw [List.getD_eq_getElem?_getD, List.getElem?_eq_getElem (by omega)]
      simp only [Option.getD_some, hx]
    · next hh =>
      rw [List.getD_eq_getElem?_getD, List.getElem?_eq_getElem (by omega)]
      simp only [Option.getD_some, hx]
      congr 1
      omega
  · rw [List.getElem?_eq_none (by omega), List.getElem?_eq_none (by rw [List.length_reverse]; omega)]
set_option maxRecDepth 100000 in
set_option maxHeartbeats 1600000 in
theorem reverse_any {w0 w : World} {ps : List Piece} {v : Value} {n : Nat} {xs : List Int} (hx : xs.length = n) (hn : n ≤ 1000000) (H : Own w0 w (slc 3 1 v n (nums xs) :: ps)) :
    Calls Try.prog 23 #[v] w (Ret fun _ w' => Own w0 w' (slc 3 1 v n (nums xs.reverse) :: ps)) := by
  obtain ⟨a, c, rfl, hc1, hc2⟩ := H.rd.shape
  have hst : Hid (RevSt xs xs n 0) := Lib.hid (by rw [← hx]; exact rev_start xs)
  replace hx := Lib.hid hx
  have hw1 : IntKind.i64.wrap ((n : Int) - 1) = (n : Int) - 1 := IntWalk.i64_in _ ⟨by omega, by omega⟩
  go_enter Try.func23, Try.ntmps23
  go_wp2_with fail
  go_loopw [2, 3] (fun v2 v3 wx => ∃ (i : Nat) (L : List Int), v2 = .int .i64 i ∧ v3 = .int .i64 ((n : Int) - 1 - i) ∧ i ≤ n ∧ Hid (RevSt xs L n i) ∧ Own w0 wx (slc 3 1 (.slice a n c) n (nums L) :: ps)) (fun v2 _ _ => n - (intOf v2).toNat)
  case atStart => exact ⟨0, xs, rfl, by simp, by omega, hst, H⟩
  case round =>
    clear H hst hw1
    obtain ⟨i, L, rfl, rfl, hi, hst, H⟩ := hrel
    by_cases hij : (i : Int) < (n : Int) - 1 - i
    · obtain ⟨j, hj⟩ : ∃ j : Nat, Hid (i + j + 1 = n) := ⟨n - 1 - i, Lib.hid (by omega)⟩
      have hjI : (n : Int) - 1 - i = (j : Int) := by have := hj.out; omega
      rw [hjI] at hij ⊢
      have hijN : i < j := by omega
      have hjn : j < n := by have := hj.out; omega
      have hin : i < n := by omega
      have hjnI : (j : Int) < (n : Int) := by omega
      have hinI : (i : Int) < (n : Int) := by omega
      have hLl : L.length = n := hst.out.1
      obtain ⟨g, c', e0, -, -, -, -, -, -⟩ := H.at (by rw [nums_length, hLl]; omega)
      cases e0
      have hcell : Hid (∀ w', Own w0 w' (slc 3 1 (.slice (some ⟨g, 0, none⟩) n c) n (nums L) :: ps) → w'.cell? ⟨g, i, none⟩ = some (.int .i64 (L.getD i 0)) ∧ w'.cell? ⟨g, j, none⟩ = some (.int .i64 (L.getD j 0))) := Lib.hid fun w' h => by
        obtain ⟨_, _, e1, h1⟩ := rd_at h.rd (Own.start w') hin
        obtain ⟨_, _, e2, h2⟩ := rd_at h.rd (Own.start w') hjn
        cases e1; cases e2
        rw [Nat.zero_add] at h1 h2
        exact ⟨h1, h2⟩
      have hst2 := Lib.hid (rev_step hst.out hijN hj.out)
      generalize L.getD i 0 = x at *
      generalize L.getD j 0 = y at *
      have hwi : IntKind.i64.wrap ((j : Int) - 1) = (j : Int) - 1 := IntWalk.i64_in _ ⟨by omega, by omega⟩
      clear hst
      go_upto_region 3 with (fail)
      refine wp_region_pres (fun _ w1 => Own w0 w1 (slc 3 1 (.slice (some ⟨g, 0, none⟩) n c) n (nums L) :: ps)) 13 [] [2, 3] (by kernel_rfl) (by kernel_rfl) (by kernel_rfl) (by kernel_rfl) (fun _ _ d _ _ h => by cases d <;> exact h) ⟨_, _, rfl, fun w => (by first | rfl | (go_simp; rfl)), _, _, rfl, fun w => (by first | rfl | (go_simp; rfl)), rfl⟩ H.drew ?_
      simp only [List.take_succ_cons, List.take_zero, List.drop_succ_cons, List.drop_zero]
      repeat
        first
        | (refine calm_value (v := ?_) (by decide) rfl (fun σ w1 hS => ?_) ?_
           rotate_left
           · obtain ⟨c0, c1⟩ := hcell.out _ hS
             first | (go_simp; rfl) | rfl
           simp only [Act.put, List.setIfInBounds_toArray, List.set_cons_zero, List.set_cons_succ])
        | (refine calm_skip (by decide) rfl ?_
           simp only [Act.put, List.setIfInBounds_toArray, List.set_cons_zero, List.set_cons_succ])
      refine calm_nil ?_
      intro σ2 wd2 _ HD
      simp only [putNew, List.foldl_nil]
      clear H hcell
      go_wp2_with (first
        | (refine wpList_store_slc rfl _ _ rfl (j := i) rfl HD (.int .i64 y) rfl (by kernel_rfl) (by omega) rfl ?_; clear HD; intro w5 H5)
        | (refine wpList_store_slc rfl _ _ rfl (j := j) rfl H5 (.int .i64 x) rfl (by kernel_rfl) (by omega) rfl ?_; clear H5; intro w6 H6))
      rw [nums_set, nums_set] at H6
      go_roundw
      case rel => exact ⟨i + 1, _, by go_num, by go_num, by omega, hst2, H6⟩
      case measure => simp [intOf]; omega
    · have hfin := Lib.hid (rev_end hst.out hx.out (by omega))
      clear hst
      go_wp2
      go_end0
      rw [← hfin.out]
      exact ⟨_, rfl, H⟩
end Go.Proofs.Ytpbodonmiepilaa
/- split: the walk of Plan's way. -/
namespace Go.Proofs.Ytpbodonmiepilaa
open Go.RowKit

theorem wpList_slice_lh {P : Program} {ops : Array Oper} {rest : List Oper} {o : Oper} {a : Act} {w : World} {Q : Exit → Act → World → Prop} (hgd : o.guard = none) {ty : TypeId} (x lo hi : Operand) (ho : o.op = .slice ty x (some lo) (some hi) none)
    (ht : P.underlying ty = some (.slice (P.elem ty))) {size : Nat} (hsz : ∀ w, (sizeOf (P.elem ty)).run P w = .ok size w) {ad : Option Addr} {n c k m : Nat} (hx : a.eval x = .slice ad n c) (hlo : a.eval lo = .int .i64 k) (hhi : a.eval hi = .int .i64 m) (hk : k ≤ m) (hm : m ≤ c) {tv : Value} (hv : Hid (sliced ad k m c size = tv))
    (h : wpList P ops Q rest (a.put o.dst tv) w) : wpList P ops Q (o :: rest) a w := by
  refine wpList_plain hgd fun K hK => ?_
  have hr := run_slice_lh (P := P) (w := w) ty ad n c ht .i64 .i64 (k : Int) (m : Int) (by omega) (by omega) (by omega)
  rw [hsz, Result.andThen_ok, Int.toNat_natCast, Int.toNat_natCast, hv.out] at hr
  unfold Oper.wp execOp
  simp only [ho, Sem.run_bind, Sem.run_pure, hx, hlo, hhi, Option.map_some, Option.map_none]
  rw [run_sliceAt_slice w ty _ _ _ _ ht, hr, Result.andThen_ok]
  exact hK _ _ h
def segT (T : List Tok) (a b : Nat) : List Tok := (T.take b).drop a
theorem segT_length {T : List Tok} {a b : Nat} (hb : b ≤ T.length) : (segT T a b).length = b - a := by unfold segT; rw [List.length_drop, List.length_take]; omega
theorem segT_ok {T : List Tok} {a b : Nat} (h : ∀ t ∈ T, TokOk t) : ∀ t ∈ segT T a b, TokOk t := fun t ht => h t (List.mem_of_mem_take (List.mem_of_mem_drop ht))
theorem cst_bd {T : List Tok} {a b : Nat} (h : ∀ t ∈ T, TokOk t) (hT : T.length ≤ 3000) : cstF (segT T a b) ≤ 159000 := by
  have h1 := cst_le (segT T a b) (k := 1) (.inl rfl)
  have h3 : (segT T a b).length ≤ T.length := by unfold segT; rw [List.length_drop, List.length_take]; omega
  have h2 := blockB_size (segT_ok (a := a) (b := b) h) (by omega) 1 false
  omega
set_option maxRecDepth 100000 in
set_option maxHeartbeats 1600000 in
theorem way_any {w0 w : World} {ps : List Piece} {bl : Nat} {ta : Option Addr} {tc : Nat} {T : List Tok} (sf : Nat) (j : Int) (fr tt : Nat) (ht : Rd w0 3 (.slice ta T.length tc) T.length (rows tcell T)) (hok : ∀ t ∈ T, TokOk t) (hT : T.length ≤ 3000) (hsf : sf ≤ 1000000000) (hft : fr ≤ tt) (hto : tt ≤ T.length)
    (H : Own w0 w (blk bl (.cells #[.slice ta T.length tc] 26) :: ps)) :
    Calls Try.prog 21 #[.int .i64 sf, .int .i64 j, .int .i64 fr, .int .i64 tt, .pointer (some ⟨bl, 0, none⟩)] w (Ret fun r w' => r = .agg #[.int .i64 ((sf : Int) + cstF (segT T fr tt)), .int .i64 j, .int .i64 (kdF (segT T fr tt))] ∧ Own w0 w' (blk bl (.cells #[.slice ta T.length tc] 26) :: ps)) := by
  have hcb := cst_bd (a := fr) (b := tt) hok hT
  have hsh := ht.shape
  obtain ⟨ta', tc', e0, htc1, htc2⟩ := hsh
  cases e0
  have hrd : ∀ w1 (qs : List Piece), Own w0 w1 qs → Rd w1 3 (sliced ta fr tt tc 3) (segT T fr tt).length (rows tcell (segT T fr tt)) := fun w1 qs h => by
    have h1 := (ht.old h).sliced hft hto
    rw [rows_take tcell tcell_length, rows_drop tcell tcell_length] at h1
    rw [segT_length hto]
    exact h1
  obtain ⟨tv, htv⟩ : ∃ tv, Hid (sliced ta fr tt tc 3 = tv) := ⟨_, rfl⟩
  rw [htv.out] at hrd
  have KC := Lib.hid (fun w1 qs (h : Own w0 w1 qs) => cost_any (hrd w1 qs h) (segT_ok hok) (by rw [segT_length hto]; omega))
  obtain ⟨N, hN⟩ : ∃ N, Hid (T.length = N) := ⟨_, rfl⟩
  rw [hN.out] at H htc1 hto hT ⊢
  generalize cstF (segT T fr tt) = cs at *
  generalize kdF (segT T fr tt) = kd at *
  clear hrd ht hok
  have H2 := H.alloc (.cells #[.int .i64 0, .int .i64 0, .int .i64 0] 49)
  have hw1 : IntKind.i64.wrap ((sf : Int) + (cs : Int)) = (sf : Int) + cs := IntWalk.i64_in _ ⟨by omega, by omega⟩
  go_enter Try.func21, Try.ntmps21
  go_upto_region 1 with (fail)
  generalize w.alloc _ = w1 at *
  generalize w.heap.size = g at *
  have c0 := (H2.front 1 rfl).cells
  go_wp2_with (refine wpList_slice_lh rfl _ _ _ rfl (by kernel_rfl) (fun _ => by kernel_rfl) rfl rfl rfl hft (by omega) htv ?_)
  refine (KC.out _ _ H2).mono ?_
  rintro e w2 ⟨_, rfl, rfl, J⟩
  replace H2 := H2.join J
  clear J KC c0 H
  replace H2 : Own w0 w2 (blk g (.cells #[.int .i64 0, .int .i64 0, .int .i64 0] 49) :: blk bl (.cells #[.slice ta N tc] 26) :: ps) := H2
  go_wp2_with (refine wpList_store_agg (vs := [.int .i64 ((sf : Int) + cs), .int .i64 j, .int .i64 kd]) rfl _ _ rfl rfl H2 rfl (by kernel_rfl) (by simp) (by simp [Value.oneCell']) rfl ?_; clear H2; intro w5 H2)
  have c0 := H2.cells
  have hld : (loadVar 49 ⟨g, 0, none⟩).run Try.prog w5 = .ok (.agg #[.int .i64 ((sf : Int) + cs), .int .i64 j, .int .i64 kd]) w5 := by
    go_simp
  refine bodyPost_ret (results_cell1 rfl _ _ g _ rfl hld) rfl ?_
  exact ⟨_, rfl, rfl, H2.drop⟩
end Go.Proofs.Ytpbodonmiepilaa
/- Two slices of ints, held against one another. (Picked out of others by tools/pick.py.) -/
namespace Go.Proofs.Ytpbodonmiepilaa
open Go.RowKit

theorem eq_of_getD {xs ys : List Int} (h : xs.length = ys.length) (hh : ∀ j, j < xs.length → xs.getD j 0 = ys.getD j 0) : xs = ys := by
  apply List.ext_getElem h
  intro i h1 h2
  have := hh i h1
  simpa [List.getD, h1, h2] using this
set_option maxHeartbeats 400000 in
theorem same_quiet (v1 v2 : Value) (n1 n2 : Nat) (xs ys : List Int) (w : World) (h1 : Rd w 1 v1 n1 (xs.map (.int .i64))) (h2 : Rd w 1 v2 n2 (ys.map (.int .i64))) :
    Calls Try.prog 19 #[v1, v2] w fun e w' => e = .returned (.bool (decide (xs = ys))) ∧ ∃ n, w' = w.drewN n := by
  have F1 := Lib.hid h1; clear h1
  have F2 := Lib.hid h2; clear h2
  have E1 : Hid (n1 = xs.length) := by have := F1.out.len; simp at this; exact this.symm
  have E2 : Hid (n2 = ys.length) := by have := F2.out.len; simp at this; exact this.symm
  obtain ⟨a1, c1, rfl, hn1, hm1⟩ := F1.out.shape
  obtain ⟨a2, c2, rfl, hn2, hm2⟩ := F2.out.shape
  go_enter Try.func19, Try.ntmps19
  go_wp2
  · have HN : Hid (n1 ≠ n2) := by have h : ((n1 : Int) != (n2 : Int)) = true := by assumption
                                  simp at h; exact Lib.hid (by omega)
    go_ret
    exact ⟨ret_bool (by simp; intro h; exact HN.out (by rw [E1.out, E2.out, h])), 0, rfl⟩
  · have HN : Hid (n1 = n2) := by have h : ((n1 : Int) != (n2 : Int)) = false := by assumption
                                  simp at h; exact Lib.hid (by omega)
    go_loopw [5] (fun i wr => ∃ k : Nat, k ≤ n1 ∧ i = .int .i64 k ∧ (∃ m, wr = w.drewN m) ∧ Hid (∀ j, j < k → xs.getD j 0 = ys.getD j 0)) (fun i _ => n1 - (intOf i).toNat)
    case atStart => exact ⟨0, Nat.zero_le _, rfl, ⟨0, rfl⟩, Lib.hid (by intro j hj; omega)⟩
    case round =>
      obtain ⟨k, hk, rfl, ⟨m, rfl⟩, hall⟩ := hrel
      by_cases hlt : k < n1
      · have hlt2 : k < n2 := by have := HN.out; omega
        obtain ⟨b1, o1, c1, e1, _, _, g1⟩ := F1.out.at (by have := F1.out.len; omega)
        obtain ⟨b2, o2, c2, e2, _, _, g2⟩ := F2.out.at (by have := F2.out.len; omega)
        cases e1; cases e2
        replace g1 := g1 k _ (ints_get _ _ (by have := E1.out; omega))
        replace g2 := g2 k _ (ints_get _ _ (by have := E2.out; omega))
        obtain ⟨x, hx⟩ : ∃ x, Hid (xs.getD k 0 = x) := ⟨_, rfl⟩
        obtain ⟨y, hy⟩ : ∃ x, Hid (ys.getD k 0 = x) := ⟨_, rfl⟩
        rw [hx.out] at g1; rw [hy.out] at g2
        go_wp2
        go_quiet (fail)
        go_wp2
        · have h : (x != y) = true := by assumption
          go_ret
          exact ⟨ret_bool (by simp at h ⊢; rintro rfl; exact h (by rw [← hx.out, hy.out])), m + nq, by first | rfl | exact drewN_add _ _ _⟩
        · have h : (x != y) = false := by assumption
          go_round
          case rel => exact ⟨k + 1, by omega, by go_num, ⟨_, rfl⟩, Lib.hid (fun j hj => by
            by_cases e : j = k
            · subst e; rw [hx.out, hy.out]; simpa using h
            · exact hall.out j (by omega))⟩
          case measure => simp [intOf]; omega
      · go_wp2
        go_ret
        refine ⟨ret_bool ?_, _, rfl⟩
        simp
        exact eq_of_getD (by rw [← E1.out, ← E2.out, HN.out]) (fun j hj => hall.out j (by have := E1.out; omega))
end Go.Proofs.Ytpbodonmiepilaa
/- split: the walks of Cuts, and of the laws' examples. -/
namespace Go.Proofs.Ytpbodonmiepilaa
open Go.RowKit

theorem same47_any (v1 v2 : Value) (n1 n2 : Nat) (xs ys : List Int) (w : World) (h1 : Rd w 1 v1 n1 (xs.map (.int .i64))) (h2 : Rd w 1 v2 n2 (ys.map (.int .i64))) :
    Calls Try.prog 19 #[v1, v2] w fun e w' => e = .returned (.bool (decide (xs = ys))) ∧ Own w w' [] :=
  (same_quiet v1 v2 n1 n2 xs ys w h1 h2).mono fun _ _ ⟨he, n, hw⟩ => ⟨he, by rw [hw]; exact (Own.start w).drewN n⟩

/-- the size of a segment -/
def cutSize (n : Int) : Int := max (n.tdiv 12 + if n.tmod 12 > 0 then 1 else 0) 64
def cutRow (s : Int) (k : Nat) : List Int := (List.range k).map fun (j : Nat) => s * ((j : Int) + 1)
theorem cutRow_succ (s : Int) (k : Nat) : cutRow s (k + 1) = cutRow s k ++ [s * ((k : Int) + 1)] := by simp [cutRow, List.range_succ]
theorem tdiv12 (n : Int) : 12 * n.tdiv 12 + n.tmod 12 = n ∧ (0 ≤ n → 0 ≤ n.tmod 12 ∧ n.tmod 12 < 12) ∧ (n < 0 → -12 < n.tmod 12 ∧ n.tmod 12 ≤ 0) := by
  refine ⟨Int.mul_tdiv_add_tmod n 12, fun h => ?_, fun h => ?_⟩
  · rw [Int.tmod_eq_emod_of_nonneg h]; omega
  · have : n.tmod 12 = -((-n).tmod 12) := by rw [Int.neg_tmod]; omega
    rw [this, Int.tmod_eq_emod_of_nonneg (by omega)]; omega
theorem cutSize_of {n q : Int} (h : q = n.tdiv 12 + if n.tmod 12 > 0 then 1 else 0) : cutSize n = max q 64 := by rw [h]; rfl
theorem cutSize_bd (n : Int) (h1 : -9223372036854775808 ≤ n) (h2 : n ≤ 9223372036854775807) : 64 ≤ cutSize n ∧ cutSize n ≤ 768614336404564651 := by
  have := tdiv12 n
  unfold cutSize
  split <;> omega

def CutsR (n : Int) (w : World) (v : Value) (w' : World) : Prop := ∃ k : Nat, k ≤ 11 ∧ (k = 0 ∨ cutSize n * k < n) ∧ (k = 11 ∨ n ≤ cutSize n * (k + 1)) ∧
  Own w w' [slc 3 1 v (k + 1) ((cutRow (cutSize n) k ++ [max n 0]).map (.int .i64))]

set_option maxHeartbeats 400000 in
theorem cuts_any (n : Int) (hn : -9223372036854775808 ≤ n ∧ n ≤ 9223372036854775807) (w : World) :
    Calls Try.prog 7 #[.int .i64 n] w (Ret (CutsR n w)) := by
  obtain ⟨hn1, hn2⟩ := hn
  have ht := Lib.hid (tdiv12 n)
  have hbd := cutSize_bd n hn1 hn2
  obtain ⟨s, hs⟩ : ∃ s, Hid (cutSize n = s) := ⟨_, rfl⟩
  rw [hs.out] at hbd
  obtain ⟨hb1, hb2⟩ := hbd
  go_enter Try.func7, Try.ntmps7
  go_upto_if 10 with (fail)
  go_cut [3] (fun s3 wx => wx = w ∧ ∃ q : Int, s3 = .int .i64 q ∧ -768614336404564651 ≤ q ∧ q ≤ 768614336404564651 ∧ Hid (s = max q 64))
  case first =>
    have hb : -768614336404564650 ≤ n.tdiv 12 ∧ n.tdiv 12 ≤ 768614336404564650 := by have := ht.out; omega
    go_wp2
    all_goals go_meet
    · exact ⟨rfl, _, rfl, by omega, by omega, Lib.hid (by rw [← hs.out]; exact cutSize_of (by rw [if_pos (by assumption)]))⟩
    · exact ⟨rfl, _, rfl, by omega, by omega, Lib.hid (by rw [← hs.out]; exact cutSize_of (by rw [if_neg (by omega)]; simp))⟩
  case rest =>
    obtain ⟨rfl, q, rfl, hq1, hq2, hq⟩ := hcut
    go_upto_region 4 with (fail)
    go_cut [3] (fun s3 wx => wx = wc ∧ s3 = .int .i64 s)
    case first =>
      go_wp2
      all_goals go_meet
      all_goals exact ⟨rfl, val_int (by have := hq.out; omega)⟩
    case rest =>
      obtain ⟨rfl, rfl⟩ := hcut
      go_wp2
      go_loopw [4, 5] (fun l at_ wr => ∃ k : Nat, ∃ t : Int, k ≤ 11 ∧ at_ = .int .i64 t ∧ Hid (k < 11 → t = s * (k + 1)) ∧ Hid (k = 0 ∨ s * k < n) ∧ Own wc wr [slc 3 1 l k ((cutRow s k).map (.int .i64))])
        (fun l _ _ => 11 - sliceLen l)
      case atStart => exact ⟨0, s, by omega, rfl, Lib.hid (by intro _; simp), Lib.hid (.inl rfl), (Own.start wc).nil _ _⟩
      case round =>
        obtain ⟨k, t, hk, rfl, ht, hlow, hown⟩ := hrel
        obtain ⟨a, c, rfl, _, _⟩ := hown.rd.shape
        go_wp2_with (first
          | (at_builtin; refine wpList_append_one rfl _ _ rfl Try.underlying22 intInfo rfl (by decide) rfl hown rfl rfl rfl (by simp [Value.oneCell']) (by omega) (by omega) ?_; intro v' w' hown'))
        · obtain ⟨_, _, rfl, _, _⟩ := hown'.rd.shape
          go_roundw
          case rel => exact ⟨k + 1, _, by omega, rfl, Lib.hid (fun h => by
              have e := ht.out (by omega)
              have : s * (k + 1) + s = s * ((k + 1 : Nat) + 1) := by rw [Int.natCast_add, Int.mul_add s ((k : Int) + (1 : Nat)) 1]; simp
              have hmul : s * ((k + 1 : Nat) + 1) ≤ 768614336404564651 * 11 := by
                refine Int.le_trans (Int.mul_le_mul_of_nonneg_right hb2 (by omega)) ?_
                omega
              have hmul0 : 0 ≤ s * ((k + 1 : Nat) + 1) := Int.mul_nonneg (by omega) (by omega)
              rw [← this, ← e] at hmul hmul0 ⊢
              exact IntWalk.wrap64_in _ ⟨by omega, by omega⟩), Lib.hid (.inr (by
              have h1 : t < n := by assumption
              rw [ht.out (by omega)] at h1; simpa using h1)), by rw [cutRow_succ, List.map_append]; simpa [ht.out (show k < 11 by omega)] using hown'⟩
          case measure => simp [sliceLen]; omega
        all_goals
          go_ret
          refine ⟨v', rfl, k, hk, ?_⟩
          rw [hs.out]
          refine ⟨hlow.out, ?_, ?_⟩
          · first
              | exact .inl (by omega)
              | (have h1 : n ≤ t := by assumption
                 by_cases h : k < 11
                 · right; rw [ht.out h] at h1; exact h1
                 · left; omega)
          · rw [List.map_append]
            have e : (max n 0 : Int) = if n < 0 then 0 else n := by omega
            rw [e]; simpa using hown'

theorem cuts_1200 (w : World) : Calls Try.prog 7 #[.int .i64 1200] w (Ret fun v w' => Own w w' [slc 3 1 v 12 ([100, 200, 300, 400, 500, 600, 700, 800, 900, 1000, 1100, 1200].map (.int .i64))]) := by
  refine (cuts_any 1200 (by omega) w).mono ?_
  rintro e w' ⟨v, rfl, k, hk, h1, h2, hown⟩
  have hs : cutSize 1200 = 100 := by decide
  rw [hs] at h1 h2 hown
  obtain rfl : k = 11 := by omega
  exact ⟨v, rfl, hown⟩
theorem cuts_200 (w : World) : Calls Try.prog 7 #[.int .i64 200] w (Ret fun v w' => Own w w' [slc 3 1 v 4 ([64, 128, 192, 200].map (.int .i64))]) := by
  refine (cuts_any 200 (by omega) w).mono ?_
  rintro e w' ⟨v, rfl, k, hk, h1, h2, hown⟩
  have hs : cutSize 200 = 64 := by decide
  rw [hs] at h1 h2 hown
  obtain rfl : k = 3 := by omega
  exact ⟨v, rfl, hown⟩

set_option maxHeartbeats 400000 in
theorem awake47_any (w : World) : Calls Try.prog 8 #[] w (Ret fun v w' => v = .bool true ∧ Own w w' []) := by
  go_enter Try.func8, Try.ntmps8
  go_wp2_with fail
  refine (cuts_1200 w).mono ?_
  rintro e w1 ⟨v1, rfl, h1⟩
  go_wp2_with fail
  refine (cuts_200 w1).mono ?_
  rintro e w2 ⟨v2, rfl, h2⟩
  have H := h1.join h2
  have H3 := H.made ([64, 128, 192, 200].map (.int .i64)) 3 1 4 rfl (by decide)
  go_wp2_with fail
  refine (same47_any _ _ 4 4 [64, 128, 192, 200] [64, 128, 192, 200] _ ?_ ?_).mono ?_
  · exact (H3.front 1 rfl).rd
  · exact H3.rd
  rintro e w3 ⟨rfl, h3⟩
  have H4 := (H3.join h3).front 2 rfl
  obtain ⟨g, c, rfl, _, _, _, _, hc, _⟩ := H4.at (by decide)
  have c0 := hc 0 _ rfl
  have c11 := hc 11 _ rfl
  clear hc
  go_wp2
  go_ret
  exact ⟨.bool true, rfl, rfl, H4.drop.drop.drop⟩

end Go.Proofs.Ytpbodonmiepilaa
/- split: the plan, plainly. No program in sight. -/
namespace Go.Proofs.Ytpbodonmiepilaa

abbrev Way := Nat × Int × Int
def bcell (x : Way) : List Value := [.int .i64 (x.1 : Int), .int .i64 x.2.1, .int .i64 x.2.2]
theorem bcell_length (x : Way) : (bcell x).length = 3 := rfl
def wayT (T : List Tok) (sf : Nat) (j : Int) (fr tt : Nat) : Way := (sf + cstF (segT T fr tt), j, kdF (segT T fr tt))
/-- The best way up to 'tt' among the one from the beginning and those from the first j cuts. -/
def bestT (T : List Tok) (C : List Nat) (W : List Way) (tt : Nat) : Nat → Way
  | 0 => wayT T 0 (-1) 0 tt
  | j + 1 => if (wayT T (W.getD j (0, 0, 0)).1 j (C.getD j 0) tt).1 < (bestT T C W tt j).1 then wayT T (W.getD j (0, 0, 0)).1 j (C.getD j 0) tt else bestT T C W tt j
def waysT (T : List Tok) (C : List Nat) : Nat → List Way
  | 0 => []
  | i + 1 => waysT T C i ++ [bestT T C (waysT T C i) (C.getD i 0) i]
def backT (W : List Way) : Nat → Int → List Nat
  | 0, _ => []
  | f + 1, i => if i < 0 then [] else i.toNat :: backT W f (W.getD i.toNat (0, 0, 0)).2.1
def planI (T : List Tok) (C : List Nat) : List Nat := backT (waysT T C C.length) C.length ((C.length : Int) - 1)
def atT (T : List Tok) (C : List Nat) : List Int := ((planI T C).map fun i => ((C.getD i 0 : Nat) : Int)).reverse
def ksT (T : List Tok) (C : List Nat) : List Int := ((planI T C).map fun i => ((waysT T C C.length).getD i (0, 0, 0)).2.2).reverse

theorem waysT_length (T : List Tok) (C : List Nat) : ∀ i, (waysT T C i).length = i
  | 0 => rfl
  | i + 1 => by simp [waysT, waysT_length T C i]
theorem waysT_get (T : List Tok) (C : List Nat) (i j : Nat) (h : j < i) : (waysT T C i).getD j (0, 0, 0) = bestT T C (waysT T C j) (C.getD j 0) j := by
  induction i with
  | zero => omega
  | succ i ih =>
    rw [waysT]
    by_cases hj : j < i
    · rw [← ih hj]
      simp [List.getD, List.getElem?_append_left (show j < (waysT T C i).length by rw [waysT_length]; exact hj)]
    · obtain rfl : j = i := by omega
      have := waysT_length T C j
      simp [List.getD, this]
theorem bestT_le0 (T : List Tok) (C : List Nat) (W : List Way) (tt : Nat) : ∀ j, (bestT T C W tt j).1 ≤ cstF (segT T 0 tt)
  | 0 => by simp [bestT, wayT]
  | j + 1 => by
    have := bestT_le0 T C W tt j
    rw [bestT]
    split <;> omega
theorem bestT_bd {T : List Tok} (h : ∀ t ∈ T, TokOk t) (hT : T.length ≤ 3000) (C : List Nat) (W : List Way) (tt j : Nat) : (bestT T C W tt j).1 ≤ 159000 :=
  Nat.le_trans (bestT_le0 T C W tt j) (cst_bd h hT)
theorem bestT_from (T : List Tok) (C : List Nat) (W : List Way) (tt : Nat) : ∀ j, -1 ≤ (bestT T C W tt j).2.1 ∧ (bestT T C W tt j).2.1 < j ∧ ((bestT T C W tt j).2.2 = 1 ∨ (bestT T C W tt j).2.2 = 2)
  | 0 => by
    have := (cst_kd (segT T 0 tt)).2
    simp only [bestT, wayT]
    refine ⟨by omega, by omega, this⟩
  | j + 1 => by
    obtain ⟨h1, h2, h3⟩ := bestT_from T C W tt j
    rw [bestT]
    split
    · have := (cst_kd (segT T (C.getD j 0) tt)).2
      simp only [wayT]
      exact ⟨by omega, by omega, this⟩
    · exact ⟨h1, by omega, h3⟩
theorem backT_neg (W : List Way) (f : Nat) {i : Int} (h : i < 0) : backT W f i = [] := by
  cases f with
  | zero => rfl
  | succ f => rw [backT, if_pos h]
theorem backT_step (W : List Way) (f i : Nat) : backT W (f + 1) (i : Int) = i :: backT W f (W.getD i (0, 0, 0)).2.1 := by
  rw [backT, if_neg (by omega), Int.toNat_natCast]
/-- Where tokens may be cut. -/
def CutsIs (N : Nat) (C : List Nat) : Prop := ∃ s k : Nat, (s : Int) = cutSize N ∧ 64 ≤ s ∧ k ≤ 11 ∧ (k = 0 ∨ s * k < N) ∧ (k = 11 ∨ N ≤ s * (k + 1)) ∧ C = ((List.range k).map fun j => s * (j + 1)) ++ [N]
theorem cutsIs_uniq {N : Nat} {C C' : List Nat} (h : CutsIs N C) (h' : CutsIs N C') : C = C' := by
  obtain ⟨s, k, hs, h64, a1, a2, a3, rfl⟩ := h
  obtain ⟨s', k', hs', _, b1, b2, b3, rfl⟩ := h'
  obtain rfl : s = s' := by omega
  have key : ∀ k k' : Nat, k ≤ 11 → k' ≤ 11 → (k' = 0 ∨ s * k' < N) → (k = 11 ∨ N ≤ s * (k + 1)) → ¬ k < k' := by
    intro k k' c1 c2 c3 c4 hlt
    have hm : s * (k + 1) ≤ s * k' := Nat.mul_le_mul_left _ hlt
    omega
  obtain rfl : k = k' := by
    have := key k k' a1 b1 b2 a3
    have := key k' k b1 a1 a2 b3
    omega
  rfl
theorem CutsIs.facts {N : Nat} {C : List Nat} (h : CutsIs N C) : 0 < C.length ∧ C.length ≤ 12 ∧ C.getD (C.length - 1) 0 = N ∧ (∀ i j, i < j → j < C.length → C.getD i 0 < C.getD j 0) ∧ (∀ i, C.getD i 0 ≤ N) := by
  obtain ⟨s, k, hs, h64, a1, a2, a3, rfl⟩ := h
  have hg : ∀ i, (((List.range k).map fun j => s * (j + 1)) ++ [N]).getD i 0 = if i < k then s * (i + 1) else if i = k then N else 0 := by
    intro i
    by_cases hi : i < k
    · simp [List.getD, List.getElem?_append_left (show i < ((List.range k).map fun j => s * (j + 1)).length by simpa using hi), hi]
    · by_cases hk : i = k
      · subst hk
        simp [List.getD]
      · simp [List.getD, hi, hk, List.getElem?_eq_none (show (((List.range k).map fun j => s * (j + 1)) ++ [N]).length ≤ i by simp; omega)]
  have hlen : (((List.range k).map fun j => s * (j + 1)) ++ [N]).length = k + 1 := by simp
  have hk : ∀ i, i < k → s * (i + 1) < N := fun i hi => by
    have : s * (i + 1) ≤ s * k := Nat.mul_le_mul_left _ hi
    omega
  refine ⟨by omega, by omega, ?_, fun i j hij hj => ?_, fun i => ?_⟩
  · rw [hg, hlen]; simp
  · rw [hlen] at hj
    rw [hg, hg, if_pos (by omega)]
    by_cases hjk : j < k
    · rw [if_pos hjk]
      exact Nat.mul_lt_mul_of_pos_left (by omega) (by omega)
    · rw [if_neg hjk, if_pos (by omega)]
      exact hk i (by omega)
  · rw [hg]
    split
    · next h => exact Nat.le_of_lt (hk i h)
    · split <;> omega
theorem cutsR_is {N : Nat} (hN : N ≤ 1000000) {w w' : World} {v : Value} (h : CutsR N w v w') : ∃ C : List Nat, CutsIs N C ∧ Own w w' [slc 3 1 v C.length (nums (C.map Int.ofNat))] := by
  obtain ⟨k, h1, h2, h3, H⟩ := h
  obtain ⟨b1, b2⟩ := cutSize_bd (N : Int) (by omega) (by omega)
  obtain ⟨s, hs⟩ : ∃ s : Nat, cutSize (N : Int) = s := ⟨(cutSize N).toNat, by omega⟩
  rw [hs] at h2 h3 H b1
  refine ⟨((List.range k).map fun j => s * (j + 1)) ++ [N], ⟨s, k, hs.symm, by omega, h1, ?_, ?_, rfl⟩, ?_⟩
  · rcases h2 with h | h
    · exact .inl h
    · refine .inr ?_
      have : ((s * k : Nat) : Int) < (N : Nat) := by push_cast; exact h
      omega
  · rcases h3 with h | h
    · exact .inl h
    · refine .inr ?_
      have : ((N : Nat) : Int) ≤ ((s * (k + 1) : Nat) : Int) := by push_cast; exact h
      omega
  · have e : nums ((((List.range k).map fun j => s * (j + 1)) ++ [N]).map Int.ofNat) = (cutRow (s : Int) k ++ [max (N : Int) 0]).map (.int .i64) := by
      rw [show max (N : Int) 0 = (N : Int) by omega]
      simp [nums, cutRow, List.map_append, Function.comp_def]
    rw [e]
    simpa using H
end Go.Proofs.Ytpbodonmiepilaa
