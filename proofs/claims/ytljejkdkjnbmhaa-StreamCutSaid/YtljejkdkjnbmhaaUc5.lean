/-
  Texts of this claim, one behind the other: flate; flate; flate; The stable sort of slices of ints; The stable sort of slices of ints; The stable sort of slices of ints; The stable sort of slices of ints; The stable sort of slices of ints; The stable sort of slices of ints; The stable sort of slices of ints; Stable sorts, plainly; The stable sort of slices of ints; The stable sort of slices of coins; The stable sort of slices of coins.
-/
import Derived.Test.YtljejkdkjnbmhaaUc4
import Derived.Deep.OwnRows
import Derived.RegionTactic
import Derived.Carry
import Derived.Deep.DeepCutAuto
import Derived.Deep.CutBlock
import Derived.Deep.LoopGhost
import Derived.WalkLawsBesides
import Derived.WalkSpells
import Derived.BigQuiet
import Derived.Deep.QuietTactic
import Derived.Test.YtljejkdkjnbmhaaRows
set_option linter.unusedVariables false
/- flate: the walk of body. -/
namespace Go.Proofs.Ytljejkdkjnbmhaa
open Go.RowKit

def SymOk (L D : List Int) (t : Tok) : Prop := TokOk t ∧ (t.len = 0 → t.lit.toNat < L.length) ∧ (t.len ≠ 0 → (lenSym t.len.toNat).1 < L.length ∧ (distSym t.dist.toNat).1 < D.length)
theorem toksB_succ {L D : List Int} {l : List Tok} {k : Nat} {t : Tok} (h : l[k]? = some t) : toksB L D (l.take (k + 1)) = toksB L D (l.take k) ++ tbits L D t := by
  unfold toksB
  rw [List.take_add_one, h, List.flatMap_append]
  simp
theorem toksB_take_le {L D : List Int} (hL : ∀ x ∈ L, 0 ≤ x ∧ x ≤ 15) (hD : ∀ x ∈ D, 0 ≤ x ∧ x ≤ 15) {l : List Tok} (ht : ∀ t ∈ l, TokOk t) (k : Nat) : (toksB L D (l.take k)).length ≤ 48 * l.length := by
  have := toksB_le hL hD (l := l.take k) (fun t h => ht t (List.mem_of_mem_take h))
  rw [List.length_take] at this
  omega

set_option maxRecDepth 100000 in
set_option maxHeartbeats 6400000 in
theorem body_any {w0 w : World} {ps : List Piece} {g : Nat} {bs : List Bool} {v u v2 u2 tv : Value} {L D : List Int} {l : List Tok} (hc : CodOk w0 ps v u L) (hd : CodOk w0 ps v2 u2 D) (ht : Reads w0 ps 3 tv l.length (rows tcell l)) (hs : ∀ t ∈ l, SymOk L D t) (he : 256 < L.length) (H : Own w0 w (Wtr g bs :: ps)) (hl : bs.length + 48 * l.length ≤ 35184372080000) :
    Calls Try.prog 37 #[.pointer (some ⟨g, 0, none⟩), tv, .agg #[v, u], .agg #[v2, u2]] w (Ret fun _ w' => Own w0 w' (Wtr g (bs ++ bodyB L D l) :: ps)) := by
  obtain ⟨ta, tc, rfl, ht1, ht2⟩ := (ht w H.drop).shape
  obtain ⟨a1, c1, rfl, -⟩ := (hc.len w H.drop).shape
  obtain ⟨a2, c2, rfl, -⟩ := (hc.cod w H.drop).shape
  obtain ⟨a3, c3, rfl, -⟩ := (hd.len w H.drop).shape
  obtain ⟨a4, c4, rfl, -⟩ := (hd.cod w H.drop).shape
  have hall := hc.all
  have hdall := hd.all
  obtain ⟨n, hn⟩ : ∃ n, Hid (L.length = n) := ⟨_, rfl⟩
  obtain ⟨m, hm⟩ : ∃ m, Hid (D.length = m) := ⟨_, rfl⟩
  obtain ⟨N, hN⟩ : ∃ N, Hid (l.length = N) := ⟨_, rfl⟩
  have HL := Lib.hid (fun k => toksB_take_le hall hdall (fun t h => (hs t h).1) (l := l) k)
  rw [hn.out] at hc he ⊢
  rw [hm.out] at hd ⊢
  rw [hN.out] at ht ht1 hl HL ⊢
  have HC := Lib.hid hc
  have HD := Lib.hid hd
  have HT := Lib.hid ht
  have HS := Lib.hid hs
  clear hc hd ht hs hall hdall
  have H := (H.alloc2 (.cells #[.slice a1 n c1, .slice a2 n c2] 69) (.cells #[.slice a3 m c3, .slice a4 m c4] 69))
  go_enter Try.func37, Try.ntmps37
  go_upto_region 1 with (fail)
  generalize (w.alloc _).alloc _ = w1 at *
  generalize w.heap.size + 1 = g2 at *
  generalize w.heap.size = g1 at *
  have H : Own w0 w1 (Wtr g bs :: blk g1 (.cells #[.slice a1 n c1, .slice a2 n c2] 69) :: blk g2 (.cells #[.slice a3 m c3, .slice a4 m c4] 69) :: ps) := (H.front 1 rfl).front 2 rfl
  have HC2 := Lib.hid (fun (qs : List Piece) => HC.out.mono (qs := qs ++ blk g1 (.cells #[.slice a1 n c1, .slice a2 n c2] 69) :: blk g2 (.cells #[.slice a3 m c3, .slice a4 m c4] 69) :: ps) fun w' h => h.skip.drop.drop)
  have HD2 := Lib.hid (fun (qs : List Piece) => HD.out.mono (qs := qs ++ blk g1 (.cells #[.slice a1 n c1, .slice a2 n c2] 69) :: blk g2 (.cells #[.slice a3 m c3, .slice a4 m c4] 69) :: ps) fun w' h => h.skip.drop.drop)
  clear HC HD
  go_wp2_with fail
  go_loopw [15] (fun s15 wx => ∃ k : Nat, s15 = .int .i64 k ∧ k ≤ N ∧ Own w0 wx (Wtr g (bs ++ toksB L D (l.take k)) :: blk g1 (.cells #[.slice a1 n c1, .slice a2 n c2] 69) :: blk g2 (.cells #[.slice a3 m c3, .slice a4 m c4] 69) :: ps)) (fun s15 _ => N - (intOf s15).toNat)
  case atStart => exact ⟨0, by go_num, by omega, by simpa [toksB] using H⟩
  case round =>
    clear H
    obtain ⟨k, rfl, hk, H⟩ := hrel
    have hlk := HL.out k
    obtain ⟨B, hB⟩ : ∃ B, Hid (bs ++ toksB L D (l.take k) = B) := ⟨_, rfl⟩
    have hBl : B.length ≤ 35184372081000 := by rw [← hB.out, List.length_append]; omega
    rw [hB.out] at H
    by_cases hlt : k < N
    · have hI : (k : Int) < (N : Int) := by omega
      obtain ⟨t, htk⟩ := get_of_lt (l := l) (k := k) (by rw [hN.out]; exact hlt)
      have hso := HS.out t (List.mem_of_getElem? htk)
      have hB2 : Hid (bs ++ toksB L D (l.take (k + 1)) = B ++ tbits L D t) := Lib.hid (by rw [toksB_succ htk, ← List.append_assoc, hB.out])
      obtain ⟨b, o, _, he2, -⟩ := (HT.out _ H.drop.drop.drop).some (by rw [rows_length tcell tcell_length, hN.out]; omega)
      cases he2
      obtain ⟨c0, cc1, cc2⟩ := tok_cells (HT.out _ H.drop.drop.drop) htk
      obtain ⟨x, y, z⟩ := t
      simp only at c0 cc1 cc2
      clear htk hlk
      go_upto_region 4 with (refine wpList_store_agg (vs := [.int .i64 x, .int .i64 y, .int .i64 z]) rfl _ _ rfl rfl (H.alloc _) rfl (by kernel_rfl) (by simp) (by simp; exact ⟨rfl, rfl, rfl⟩) rfl ?_; clear H; intro w5 H)
      generalize wr.heap.size = tb at *
      have H : Own w0 w5 (Wtr g B :: blk tb (.cells #[.int .i64 x, .int .i64 y, .int .i64 z] 79) :: blk g1 (.cells #[.slice a1 n c1, .slice a2 n c2] 69) :: blk g2 (.cells #[.slice a3 m c3, .slice a4 m c4] 69) :: ps) := H.swap
      clear c0 cc1 cc2
      have hok := hso.1
      by_cases hx : x = 0
      · subst hx
        have hz : 0 ≤ z ∧ z < 256 := by rcases hok with h | h <;> simp only at h <;> omega
        obtain ⟨s, rfl⟩ : ∃ s : Nat, z = s := ⟨z.toNat, by omega⟩
        have hsl : s < L.length := by have := hso.2.1 rfl; simpa using this
        have htb : tbits L D ⟨0, y, (s : Int)⟩ = cbits L s := by unfold tbits; rw [if_pos rfl, Int.toNat_natCast]
        rw [htb] at hB2
        have hp := fun w1 h => cput_any (w := w1) (HC2.out [blk tb (.cells #[.int .i64 0, .int .i64 y, .int .i64 (s : Int)] 79)]) hsl h (bs := B) (g := g) (by omega)
        have HP := Lib.hid hp
        clear hp hso hok htb
        have c0 := (H.front 1 rfl).cells
        have cg1 := (H.front 2 rfl).cells
        go_wp2_with fail
        refine (HP.out _ H).mono ?_
        rintro e w6 ⟨_, rfl, H6⟩
        clear H c0 cg1
        have H : Own w0 w6 (Wtr g (B ++ cbits L s) :: blk g1 (.cells #[.slice a1 n c1, .slice a2 n c2] 69) :: blk g2 (.cells #[.slice a3 m c3, .slice a4 m c4] 69) :: ps) := (H6.front 1 rfl).drop
        rw [← hB2.out] at H
        clear H6
        go_wp2_with fail
        go_roundw
        case rel => exact ⟨k + 1, by go_num, by omega, H⟩
        case measure => simp [intOf]; omega
      · have hxb : (x == 0) = false := by simpa using hx
        have hb : 3 ≤ x ∧ x ≤ 258 ∧ 1 ≤ y ∧ y ≤ 32768 := by rcases hok with h | h <;> simp only at h <;> omega
        obtain ⟨p, rfl⟩ : ∃ p : Nat, x = p := ⟨x.toNat, by omega⟩
        obtain ⟨q, rfl⟩ : ∃ q : Nat, y = q := ⟨y.toNat, by omega⟩
        obtain ⟨hs1, hs2⟩ := hso.2.2 hx
        simp only [Int.toNat_natCast] at hs1 hs2
        have hlb := lenSym_bd (n := p) (by omega)
        have hdb := distSym_bd (n := q) (by omega)
        have hln := length_any p (by omega) (by omega)
        have hdn := dist_any q (by omega) (by omega)
        have htb : tbits L D ⟨(p : Int), (q : Int), z⟩ = cbits L (lenSym p).1 ++ (bitsOf (lenSym p).2.2 (lenSym p).2.1 ++ (cbits D (distSym q).1 ++ bitsOf (distSym q).2.2 (distSym q).2.1)) := by unfold tbits; rw [if_neg hx]; rfl
        rw [htb] at hB2
        obtain ⟨l1, l2, l3, hl1⟩ : ∃ l1 l2 l3, Hid (lenSym p = (l1, l2, l3)) := ⟨_, _, _, rfl⟩
        obtain ⟨d1, d2, d3, hd1⟩ : ∃ d1 d2 d3, Hid (distSym q = (d1, d2, d3)) := ⟨_, _, _, rfl⟩
        rw [hl1.out] at hs1 hlb hln hB2
        rw [hd1.out] at hs2 hdb hdn hB2
        simp only at hs1 hlb hln hB2 hs2 hdb hdn
        obtain ⟨-, -, hl2, hl3⟩ := hlb
        obtain ⟨-, hd2, hd3⟩ := hdb
        have hl3b : l3 < 32 := Nat.lt_of_lt_of_le hl3 (Nat.pow_le_pow_right (n := 2) (by omega) hl2)
        have hd3b : d3 < 8192 := Nat.lt_of_lt_of_le hd3 (Nat.pow_le_pow_right (n := 2) (by omega) hd2)
        have HB2 := hB2
        clear hl3 hd3 htb hl1 hd1 hso hok
        have k1 := fun w1 h => cput_any (w := w1) (HC2.out [blk tb (.cells #[.int .i64 (p : Int), .int .i64 (q : Int), .int .i64 z] 79)]) hs1 h (bs := B) (g := g) (by omega)
        have bd1 := cbits_le (HC2.out []).all l1
        have k2 := fun w1 (h : Own w0 w1 (Wtr g (B ++ cbits L l1) :: blk tb (.cells #[.int .i64 (p : Int), .int .i64 (q : Int), .int .i64 z] 79) :: blk g1 (.cells #[.slice a1 n c1, .slice a2 n c2] 69) :: blk g2 (.cells #[.slice a3 m c3, .slice a4 m c4] 69) :: ps)) => put_any (l3 : Int) (l2 : Int) (by omega) (by omega) h (by rw [List.length_append]; omega)
        rw [cut_eq (by omega) (by omega), Int.toNat_natCast] at k2
        have k3 := fun w1 h => cput_any (w := w1) (HD2.out [blk tb (.cells #[.int .i64 (p : Int), .int .i64 (q : Int), .int .i64 z] 79)]) hs2 h (bs := B ++ cbits L l1 ++ bitsOf l3 l2) (g := g) (by rw [List.length_append, List.length_append, bitsOf_length]; omega)
        have bd2 := cbits_le (HD2.out []).all d1
        have k4 := fun w1 (h : Own w0 w1 (Wtr g (B ++ cbits L l1 ++ bitsOf l3 l2 ++ cbits D d1) :: blk tb (.cells #[.int .i64 (p : Int), .int .i64 (q : Int), .int .i64 z] 79) :: blk g1 (.cells #[.slice a1 n c1, .slice a2 n c2] 69) :: blk g2 (.cells #[.slice a3 m c3, .slice a4 m c4] 69) :: ps)) => put_any (d3 : Int) (d2 : Int) (by omega) (by omega) h (by rw [List.length_append, List.length_append, List.length_append, bitsOf_length]; omega)
        rw [cut_eq (by omega) (by omega), Int.toNat_natCast] at k4
        have K1 := Lib.hid k1
        have K2 := Lib.hid k2
        have K3 := Lib.hid k3
        have K4 := Lib.hid k4
        have LN := Lib.hid hln
        have DN := Lib.hid hdn
        clear k1 k2 k3 k4 hln hdn bd1 bd2 hs1 hs2
        have c0 := (H.front 1 rfl).cells
        have cg1 := (H.front 2 rfl).cells
        go_wp2_with fail
        refine (LN.out _).mono ?_
        rintro e w6 ⟨_, rfl, rfl, H6⟩
        replace H := H.join H6
        clear H6 c0 cg1
        have c0 := (H.front 1 rfl).cells
        have cg1 := (H.front 2 rfl).cells
        go_wp2_with fail
        refine (K1.out _ H).mono ?_
        rintro e w7 ⟨_, rfl, H7⟩
        clear H c0 cg1
        go_wp2_with fail
        refine (K2.out _ H7).mono ?_
        rintro e w8 ⟨_, rfl, H⟩
        clear H7
        have c0 := (H.front 1 rfl).cells
        go_wp2_with fail
        refine (DN.out _).mono ?_
        rintro e w9 ⟨_, rfl, rfl, H6⟩
        replace H := H.join H6
        clear H6 c0
        have cg2 := (H.front 3 rfl).cells
        go_wp2_with fail
        refine (K3.out _ H).mono ?_
        rintro e w10 ⟨_, rfl, H10⟩
        clear H cg2
        go_wp2_with fail
        refine (K4.out _ H10).mono ?_
        rintro e w11 ⟨_, rfl, H11⟩
        have H : Own w0 w11 (Wtr g (B ++ cbits L l1 ++ bitsOf l3 l2 ++ cbits D d1 ++ bitsOf d3 d2) :: blk g1 (.cells #[.slice a1 n c1, .slice a2 n c2] 69) :: blk g2 (.cells #[.slice a3 m c3, .slice a4 m c4] 69) :: ps) := (H11.front 1 rfl).drop
        simp only [List.append_assoc] at H
        rw [← HB2.out] at H
        clear H10 H11
        go_wp2_with fail
        go_roundw
        case rel => exact ⟨k + 1, by go_num, by omega, H⟩
        case measure => simp [intOf]; omega
    · have hI : ¬ (k : Int) < (N : Int) := by omega
      have hlall : l.take k = l := List.take_of_length_le (by rw [hN.out]; omega)
      rw [hlall] at hB
      have hfin : Hid (bs ++ bodyB L D l = B ++ cbits L 256) := Lib.hid (by unfold bodyB; rw [← List.append_assoc, hB.out])
      have hp := fun w1 h => cput_any (w := w1) (HC2.out []) (s := 256) (by rw [hn.out]; exact he) h (bs := B) (g := g) (by omega)
      have HP := Lib.hid hp
      clear hp hlk
      have cg1 := (H.front 1 rfl).cells
      go_wp2_with fail
      refine (HP.out _ H).mono ?_
      rintro e w6 ⟨_, rfl, H6⟩
      go_wp2_with fail
      go_end0
      rw [hfin.out]
      exact ⟨_, rfl, (H6.front 1 rfl).drop.front 1 rfl |>.drop⟩
end Go.Proofs.Ytljejkdkjnbmhaa
/- flate: the walks of trim, counted. -/
namespace Go.Proofs.Ytljejkdkjnbmhaa
open Go.RowKit

set_option maxRecDepth 100000 in
set_option maxHeartbeats 1600000 in
theorem trim_any {w : World} {a : Option Addr} {n c : Nat} {L : List Int} (least : Nat) (hr : Rd w 1 (.slice a n c) n (nums L)) (hn : n ≤ 1000000) (hl : least ≤ 1000000) :
    Calls Try.prog 58 #[.slice a n c, .int .i64 least] w (Ret fun r w' => r = .slice a (trimK L least n) c ∧ Own w w' []) := by
  have H := Own.start w
  obtain ⟨_, _, he, hc1, hc2⟩ := hr.shape
  cases he
  have hLn := rd_len hr
  obtain ⟨K, hK⟩ : ∃ K, Hid (trimK L least n = K) := ⟨_, Lib.hid rfl⟩
  rw [hK.out]
  have HR := Lib.hid hr
  have HLN := Lib.hid hLn
  clear hr hLn
  go_enter Try.func58, Try.ntmps58
  go_wp2_with fail
  go_loopw [0] (fun s0 wx => ∃ k : Nat, s0 = .slice a k c ∧ k ≤ n ∧ Hid (trimK L least k = K) ∧ Own w wx []) (fun s0 _ => sliceLen s0)
  case atStart => exact ⟨n, rfl, Nat.le_refl _, hK, H⟩
  case round =>
    clear H hK
    obtain ⟨k, rfl, hk, hK, H⟩ := hrel
    have fin : trimK L least k = k → Hid (k = K) := fun h => Lib.hid (by rw [← hK.out, h])
    by_cases h1 : least < k
    · have h1I : (least : Int) < (k : Int) := by omega
      obtain ⟨j, rfl⟩ : ∃ j, k = j + 1 := ⟨k - 1, by omega⟩
      obtain ⟨b, o, rfl, c0⟩ := rd_at HR.out H (i := j) (by omega)
      have hst : trimK L least (j + 1) = if least < j + 1 ∧ L.getD j 0 = 0 then trimK L least j else j + 1 := rfl
      obtain ⟨x, hx⟩ : ∃ x, L.getD j 0 = x := ⟨_, rfl⟩
      rw [hx] at hst c0
      clear hx
      have hjw : IntKind.i64.wrap (((j + 1 : Nat) : Int) - 1) = (j : Int) := by rw [show ((j + 1 : Nat) : Int) - 1 = (j : Int) by omega]; exact IntWalk.i64_in _ ⟨by omega, by omega⟩
      have hjw2 : IntKind.i64.wrap ((j : Int) + 1 - 1) = (j : Int) := by rw [show (j : Int) + 1 - 1 = (j : Int) by omega]; exact IntWalk.i64_in _ ⟨by omega, by omega⟩
      have hjc : (j : Int) ≤ (c : Int) := by omega
      by_cases hx0 : x = 0
      · subst hx0
        rw [if_pos ⟨h1, rfl⟩, hK.out] at hst
        have HST := Lib.hid hst.symm
        clear hst fin
        go_wp2_with fail
        go_roundw
        case rel => exact ⟨j, rfl, by omega, HST, H⟩
        case measure => simp [sliceLen]
      · have hxb : (x == 0) = false := by simpa using hx0
        rw [if_neg (fun h => hx0 h.2)] at hst
        have hfk := fin hst
        clear hst fin
        go_wp2_with fail
        go_ret
        exact ⟨_, rfl, by rw [← hfk.out]; rfl, H⟩
    · have h1I : ¬ (least : Int) < (k : Int) := by omega
      have hst : trimK L least k = k := by
        cases k with
        | zero => rfl
        | succ k => rw [trimK, if_neg (fun h => h1 h.1)]
      have hfk := fin hst
      clear hst fin
      go_wp2_with fail
      go_ret
      exact ⟨_, rfl, by rw [← hfk.out]; rfl, H⟩
theorem Own.getc {w0 w : World} {ps : List Piece} {e : TypeId} {size n g c j : Nat} {xs : List Value} {u : Value} (h : Own w0 w (slc e size (.slice (some ⟨g, 0, none⟩) n c) n xs :: ps)) (hu : xs[j]? = some u) : w.cell? ⟨g, j, none⟩ = some u := by
  have := h.rd.cell hu
  rwa [Nat.zero_add] at this
theorem bumpF_snoc (o l : List Int) (x : Int) : bumpF o (l ++ [x]) = bump1 (bumpF o l) x := by simp [bumpF]
def litN (l : List Tok) (k : Nat) : List Int := litFq (l.take k)
def distN (l : List Tok) (k : Nat) : List Int := distFq (l.take k)
theorem litN_succ {l : List Tok} {k : Nat} {t : Tok} (h : l[k]? = some t) : litN l (k + 1) = bump1 (litN l k) (litS t) := by
  unfold litN litFq
  rw [List.take_add_one, h, List.map_append]
  exact bumpF_snoc _ _ _
theorem distN_succ {l : List Tok} {k : Nat} {t : Tok} (h : l[k]? = some t) : distN l (k + 1) = if t.len = 0 then distN l k else bump1 (distN l k) (distS t) := by
  unfold distN distFq
  rw [List.take_add_one, h, List.filter_append, List.map_append]
  split
  · next h0 =>
    have e : List.filter (fun t : Tok => decide (t.len ≠ 0)) (some t).toList = [] := by
      show List.filter (fun t : Tok => decide (t.len ≠ 0)) [t] = []
      rw [List.filter_cons, if_neg (by simpa using h0), List.filter_nil]
    rw [e, List.map_nil, List.append_nil]
  · next h0 =>
    have e : List.filter (fun t : Tok => decide (t.len ≠ 0)) (some t).toList = [t] := by
      show List.filter (fun t : Tok => decide (t.len ≠ 0)) [t] = [t]
      rw [List.filter_cons, if_pos (by simpa using h0), List.filter_nil]
    rw [e]
    exact bumpF_snoc _ _ _
theorem litN_len (l : List Tok) (k : Nat) : (litN l k).length = 286 := by unfold litN litFq; rw [bumpF_length, List.length_set]; exact List.length_replicate
theorem distN_len (l : List Tok) (k : Nat) : (distN l k).length = 30 := by unfold distN distFq; rw [bumpF_length]; exact List.length_replicate
theorem litN_bd (l : List Tok) (k j : Nat) : 0 ≤ (litN l k).getD j 0 ∧ (litN l k).getD j 0 ≤ 1 + l.length := by
  have h0 : ∀ j, 0 ≤ ((zerosF 286).set 256 1).getD j 0 ∧ ((zerosF 286).set 256 1).getD j 0 ≤ 1 := by
    intro j
    rw [List.getD_eq_getElem?_getD, List.getElem?_set]
    split
    · split <;> simp
    · have := zeros_get 286 j
      rw [List.getD_eq_getElem?_getD] at this
      rw [this]; omega
  have := bump_bound ((l.take k).map litS) ((zerosF 286).set 256 1) j 1 h0
  rw [List.length_map, List.length_take] at this
  unfold litN litFq
  omega
theorem distN_bd (l : List Tok) (k j : Nat) : 0 ≤ (distN l k).getD j 0 ∧ (distN l k).getD j 0 ≤ 1 + l.length := by
  have h0 : ∀ j, 0 ≤ (zerosF 30).getD j 0 ∧ (zerosF 30).getD j 0 ≤ 0 := by intro j; rw [zeros_get]; omega
  have := bump_bound (((l.take k).filter fun t => decide (t.len ≠ 0)).map distS) (zerosF 30) j 0 h0
  have h2 := List.length_filter_le (fun t : Tok => decide (t.len ≠ 0)) (l.take k)
  rw [List.length_map] at this
  rw [List.length_take] at h2
  unfold distN distFq
  omega
theorem nums_bump (F : List Int) (s : Nat) : (nums F).set s (.int .i64 (F.getD s 0 + 1)) = nums (bump1 F (s : Int)) := by
  rw [nums_set]; rfl
set_option maxRecDepth 100000 in
set_option maxHeartbeats 6400000 in
theorem counted2_any {w : World} {tv : Value} {l : List Tok} (ht : Rd w 3 tv l.length (rows tcell l)) (hs : ∀ t ∈ l, TokOk t) (hl : l.length ≤ 1000000) :
    Calls Try.prog 56 #[tv] w (Ret fun r w' => ∃ v u, r = .tuple #[v, u] ∧ Own w w' [slc 3 1 v 286 (nums (litFq l)), slc 3 1 u 30 (nums (distFq l))]) := by
  obtain ⟨ta, tc, rfl, ht1, ht2⟩ := ht.shape
  have H := Own.start w
  obtain ⟨N, hN⟩ : ∃ N, Hid (l.length = N) := ⟨_, Lib.hid rfl⟩
  rw [hN.out] at ht ht1 hl ⊢
  have HT := Lib.hid ht
  have HS := Lib.hid hs
  have hmk1 : ∀ w : World, (Instr.makeSlice 30 (.int .i64 286) (.int .i64 286)).run Try.prog w = .ok (.slice (some ⟨w.heap.size, 0, none⟩) 286 286) (w.alloc (.cells (madeCells #[.int .i64 0] 286) 3)) := run_make_row' _ _ _ 8 Try.underlying30 intInfo rfl .i64 .i64 286 (by omega) (by omega)
  have hmk2 : ∀ w : World, (Instr.makeSlice 30 (.int .i64 30) (.int .i64 30)).run Try.prog w = .ok (.slice (some ⟨w.heap.size, 0, none⟩) 30 30) (w.alloc (.cells (madeCells #[.int .i64 0] 30) 3)) := run_make_row' _ _ _ 8 Try.underlying30 intInfo rfl .i64 .i64 30 (by omega) (by omega)
  clear ht hs
  go_enter Try.func56, Try.ntmps56
  go_upto_region 1 with (fail)
  have mk : ∀ (w1 : World) (qs : List Piece) (g n : Nat), n ≤ 1000000 → Own w w1 (blk g (.cells (madeCells #[.int .i64 0] n) 3) :: qs) → Own w w1 (slc 3 1 (.slice (some ⟨g, 0, none⟩) n n) n (nums (List.replicate n 0)) :: qs) := fun w1 qs g n hn h =>
    h.slc_mk (by simp [nums]) (Nat.le_refl _) (by simp [maxLen]; omega) (by simp [size_madeCells]) (by rw [toList_madeCells_one]; simp [nums])
  go_cut [4, 5, 11, 12] (fun s4 s5 _ _ wx => ∃ g1 g2, s4 = .slice (some ⟨g1, 0, none⟩) 286 286 ∧ s5 = .slice (some ⟨g2, 0, none⟩) 30 30 ∧ Own w wx [slc 3 1 (.slice (some ⟨g1, 0, none⟩) 286 286) 286 (nums (List.replicate 286 0)), slc 3 1 (.slice (some ⟨g2, 0, none⟩) 30 30) 30 (nums (List.replicate 30 0))])
  case first =>
    go_region
    all_goals go_wp2
    all_goals go_meet
    · have h := (H.alloc2 (.cells (madeCells #[.int .i64 0] 286) 3) (.cells (madeCells #[.int .i64 0] 30) 3)).drew
      exact ⟨_, _, rfl, rfl, mk _ _ _ _ (by omega) (mk _ _ _ _ (by omega) h).swap⟩
    · have h := (H.alloc2 (.cells (madeCells #[.int .i64 0] 30) 3) (.cells (madeCells #[.int .i64 0] 286) 3)).drew
      exact ⟨_, _, rfl, rfl, (mk _ _ _ _ (by omega) (mk _ _ _ _ (by omega) h).swap).swap⟩
  case rest =>
  obtain ⟨g1, g2, rfl, rfl, H⟩ := hcut
  have hst0 : (nums (List.replicate 286 0)).set 256 (.int .i64 1) = nums (litN l 0) := by rw [nums_set]; rfl
  have HST0 := Lib.hid hst0
  clear hst0
  go_wp2_with (refine wpList_store_slc rfl _ _ rfl rfl H (.int .i64 1) rfl (by kernel_rfl) (by omega) rfl ?_; clear H; intro w2 H; rw [HST0.out] at H)
  go_loopw [17] (fun s17 wx => ∃ k : Nat, s17 = .int .i64 k ∧ k ≤ N ∧ Own w wx [slc 3 1 (.slice (some ⟨g1, 0, none⟩) 286 286) 286 (nums (litN l k)), slc 3 1 (.slice (some ⟨g2, 0, none⟩) 30 30) 30 (nums (distN l k))]) (fun s17 _ => N - (intOf s17).toNat)
  case atStart => exact ⟨0, by go_num, by omega, H⟩
  case round =>
    clear H
    obtain ⟨k, rfl, hk, H⟩ := hrel
    by_cases hlt : k < N
    · have hI : (k : Int) < (N : Int) := by omega
      obtain ⟨t, htk⟩ := get_of_lt (l := l) (k := k) (by rw [hN.out]; exact hlt)
      have hok := HS.out t (List.mem_of_getElem? htk)
      have hls := litN_succ htk
      have hds := distN_succ htk
      obtain ⟨b, o, _, he2, -⟩ := HT.out.some (by rw [rows_length tcell tcell_length, hN.out]; omega)
      cases he2
      obtain ⟨c0, cc1, cc2⟩ := tok_cells (HT.out.old H) htk
      obtain ⟨x, y, z⟩ := t
      simp only at c0 cc1 cc2 hds
      clear htk
      have HLS := Lib.hid hls
      have HDS := Lib.hid hds
      clear hls hds
      go_upto_region 6 with (refine wpList_store_agg (vs := [.int .i64 x, .int .i64 y, .int .i64 z]) rfl _ _ rfl rfl (H.alloc _) rfl (by kernel_rfl) (by simp) (by simp; exact ⟨rfl, rfl, rfl⟩) rfl ?_; clear H; intro w5 H)
      generalize wr.heap.size = tb at *
      have H : Own w w5 (blk tb (.cells #[.int .i64 x, .int .i64 y, .int .i64 z] 79) :: slc 3 1 (.slice (some ⟨g1, 0, none⟩) 286 286) 286 (nums (litN l k)) :: slc 3 1 (.slice (some ⟨g2, 0, none⟩) 30 30) 30 (nums (distN l k)) :: []) := H
      clear c0 cc1 cc2
      have hlen1 := litN_len l k
      have hlen2 := distN_len l k
      have c0 := H.cells
      by_cases hx : x = 0
      · subst hx
        have hz : 0 ≤ z ∧ z < 256 := by rcases hok with h | h <;> simp only at h <;> omega
        obtain ⟨s, rfl⟩ : ∃ s : Nat, z = s := ⟨z.toNat, by omega⟩
        have hb := litN_bd l k s
        rw [hN.out] at hb
        have c1 := (H.front 1 rfl).getc (nums_get (getD_get (F := litN l k) (i := s) (by omega)))
        have hst := nums_bump (litN l k) s
        have hds2 : Hid (distN l (k + 1) = distN l k) := Lib.hid (by have := HDS.out; rw [if_pos rfl] at this; exact this)
        have hls2 : Hid (litN l (k + 1) = bump1 (litN l k) (s : Int)) := Lib.hid (by have := HLS.out; unfold litS at this; rw [if_pos rfl] at this; exact this)
        obtain ⟨v, hv⟩ : ∃ v, (litN l k).getD s 0 = v := ⟨_, rfl⟩
        rw [hv] at hb c1 hst
        have hw : IntKind.i64.wrap (v + 1) = v + 1 := IntWalk.i64_in _ ⟨by omega, by omega⟩
        have hsI : (s : Int) < 286 := by omega
        have HST := Lib.hid hst
        clear hv hst hlen1 hlen2 hok HDS HLS
        go_wp2_with (refine wpList_store_slc rfl _ _ rfl rfl (H.front 1 rfl) (.int .i64 (v + 1)) rfl (by kernel_rfl) (by omega) rfl ?_; clear H c1 c0; intro w6 H; rw [HST.out, ← hls2.out] at H)
        go_roundw
        case rel => exact ⟨k + 1, by go_num, by omega, by rw [hds2.out]; exact ((H.front 1 rfl).drop)⟩
        case measure => simp [intOf]; omega
      · have hxb : (x == 0) = false := by simpa using hx
        have hb : 3 ≤ x ∧ x ≤ 258 ∧ 1 ≤ y ∧ y ≤ 32768 := by rcases hok with h | h <;> simp only at h <;> omega
        obtain ⟨p, rfl⟩ : ∃ p : Nat, x = p := ⟨x.toNat, by omega⟩
        obtain ⟨q, rfl⟩ : ∃ q : Nat, y = q := ⟨y.toNat, by omega⟩
        have hlb := lenSym_bd (n := p) (by omega)
        have hdb := distSym_bd (n := q) (by omega)
        have hln := length_any p (by omega) (by omega)
        have hdn := dist_any q (by omega) (by omega)
        have hds2 : distN l (k + 1) = bump1 (distN l k) ((distSym q).1 : Int) := by have := HDS.out; rw [if_neg hx] at this; unfold distS at this; simpa using this
        have hls2 : litN l (k + 1) = bump1 (litN l k) ((lenSym p).1 : Int) := by have := HLS.out; unfold litS at this; rw [if_neg hx] at this; simpa using this
        obtain ⟨l1, l2, l3, hl1⟩ : ∃ l1 l2 l3, lenSym p = (l1, l2, l3) := ⟨_, _, _, rfl⟩
        obtain ⟨d1, d2, d3, hd1⟩ : ∃ d1 d2 d3, distSym q = (d1, d2, d3) := ⟨_, _, _, rfl⟩
        rw [hl1] at hlb hln hls2
        rw [hd1] at hdb hdn hds2
        simp only at hlb hdb hln hdn hls2 hds2
        have c1 := (H.front 1 rfl).getc (nums_get (getD_get (F := litN l k) (i := l1) (by omega)))
        have c2 := (H.front 2 rfl).getc (nums_get (getD_get (F := distN l k) (i := d1) (by omega)))
        have hst := nums_bump (litN l k) l1
        have hst2 := nums_bump (distN l k) d1
        have hb1 := litN_bd l k l1
        have hb2 := distN_bd l k d1
        rw [hN.out] at hb1 hb2
        rw [← hls2] at hst
        rw [← hds2] at hst2
        have hd29 := hdb.1
        obtain ⟨v, hv⟩ : ∃ v, (litN l k).getD l1 0 = v := ⟨_, rfl⟩
        obtain ⟨u, hu⟩ : ∃ u, (distN l k).getD d1 0 = u := ⟨_, rfl⟩
        rw [hv] at hb1 c1 hst
        rw [hu] at hb2 c2 hst2
        have hw : IntKind.i64.wrap (v + 1) = v + 1 := IntWalk.i64_in _ ⟨by omega, by omega⟩
        have hw2 : IntKind.i64.wrap (u + 1) = u + 1 := IntWalk.i64_in _ ⟨by omega, by omega⟩
        have hsI : (l1 : Int) < 286 := by omega
        have hdI : (d1 : Int) < 30 := by omega
        have HST := Lib.hid hst
        have HST2 := Lib.hid hst2
        have LN := Lib.hid hln
        have DN := Lib.hid hdn
        have hl286 : l1 < 286 := by omega
        have hd30 : d1 < 30 := by omega
        have HU := Lib.hid (show (nums (distN l k))[d1]? = some (.int .i64 u) by rw [← hu]; exact nums_get (getD_get (by omega)))
        clear hv hu hst hst2 hlen1 hlen2 hok HDS HLS hlb hdb hln hdn hls2 hds2 hl1 hd1
        have CELLS := Lib.hid (fun (w' : World) (h : Own w5 w' []) => And.intro ((h.oldCell (World.block_lt_of_cell? _ _ c1)).trans c1) ((h.oldCell (World.block_lt_of_cell? _ _ c2)).trans c2))
        clear c1 c2
        go_wp2_with fail
        refine (LN.out _).mono ?_
        rintro e w6 ⟨_, rfl, rfl, H6⟩
        obtain ⟨c1, c2⟩ := CELLS.out _ H6
        replace H := H.join H6
        clear H6 c0
        have H : Own w w6 (blk tb (.cells #[.int .i64 (p : Int), .int .i64 (q : Int), .int .i64 z] 79) :: slc 3 1 (.slice (some ⟨g1, 0, none⟩) 286 286) 286 (nums (litN l k)) :: slc 3 1 (.slice (some ⟨g2, 0, none⟩) 30 30) 30 (nums (distN l k)) :: []) := H
        have c0 := H.cells
        go_wp2_with (refine wpList_store_slc rfl _ _ rfl rfl (H.front 1 rfl) (.int .i64 (v + 1)) rfl (by kernel_rfl) hl286 rfl ?_; clear H c1 c0; intro w7 H; rw [HST.out] at H; replace H := H.swap; have c0 := H.cells)
        refine (DN.out _).mono ?_
        rintro e w8 ⟨_, rfl, rfl, H6⟩
        replace H := H.join H6
        clear H6 c0
        have H : Own w w8 (blk tb (.cells #[.int .i64 (p : Int), .int .i64 (q : Int), .int .i64 z] 79) :: slc 3 1 (.slice (some ⟨g1, 0, none⟩) 286 286) 286 (nums (litN l (k + 1))) :: slc 3 1 (.slice (some ⟨g2, 0, none⟩) 30 30) 30 (nums (distN l k)) :: []) := H
        have c2' := (H.front 2 rfl).getc HU.out
        clear c2
        go_wp2_with (refine wpList_store_slc rfl _ _ rfl rfl (H.front 2 rfl) (.int .i64 (u + 1)) rfl (by kernel_rfl) hd30 rfl ?_; clear H c2'; intro w9 H; rw [HST2.out] at H)
        go_roundw
        case rel => exact ⟨k + 1, by go_num, by omega, (((H.front 2 rfl).front 2 rfl).drop)⟩
        case measure => simp [intOf]; omega
    · obtain rfl : k = N := by omega
      have hI : ¬ (k : Int) < (k : Int) := by omega
      have h1 : litN l k = litFq l := by unfold litN; rw [List.take_of_length_le (by rw [hN.out]; exact Nat.le_refl _)]
      have h2 : distN l k = distFq l := by unfold distN; rw [List.take_of_length_le (by rw [hN.out]; exact Nat.le_refl _)]
      rw [h1, h2] at H
      clear h1 h2
      go_wp2_with fail
      go_ret2
      exact ⟨_, rfl, _, _, rfl, H⟩
end Go.Proofs.Ytljejkdkjnbmhaa
/- flate: the walk of runs. -/
namespace Go.Proofs.Ytljejkdkjnbmhaa
open Go.RowKit

def rcell (r : Run) : List Value := [.int .i64 r.sym, .int .i64 r.n, .int .i64 r.v]
theorem rcell_length (r : Run) : (rcell r).length = 3 := rfl
theorem runInfo : (Try.prog.info? 102).map (fun i => (i.zero, i.size, i.bytes)) = some (some (.agg #[.int .i64 0, .int .i64 0, .int .i64 0]), 3, 24) := by kernel_rfl
theorem rd_tailK {w : World} {b o cap n k : Nat} {F : List Int} (h : Rd w 1 (.slice (some ⟨b, o, none⟩) n cap) n (nums F)) (hk : k ≤ n) :
    Rd w 1 (.slice (if cap = k then some ⟨b, o, none⟩ else some ⟨b, o + k, none⟩) (n - k) (cap - k)) (n - k) (nums (F.drop k)) := by
  have h1 := h.tail (k := k) hk
  have e : (nums F).drop (k * 1) = nums (F.drop k) := by rw [Nat.mul_one]; simp [nums, List.map_drop]
  rw [e] at h1
  by_cases hc : cap = k
  · subst hc
    obtain ⟨hl, a, c, e, hle, _⟩ := h
    cases e
    have hn : n = cap := by omega
    subst hn
    rw [if_pos rfl, Nat.sub_self]
    have hx : F.drop n = [] := List.drop_eq_nil_of_le (by rw [nums_length] at hl; omega)
    rw [hx]
    exact ⟨by simp [nums], _, _, rfl, by omega, by simp [maxLen], by simp, fun ad _ j u hu => by simp [nums] at hu⟩
  · rw [if_neg hc]
    have e2 : (⟨b, o, none⟩ : Addr).add (k * 1) = ⟨b, o + k, none⟩ := by rw [Addr.add_lit, Nat.mul_one]
    rw [e2] at h1
    exact h1
theorem sameK_le (x : Int) : ∀ t, sameK x t ≤ t.length
  | [] => by simp [sameK]
  | y :: t => by
    rw [sameK]
    have := sameK_le x t
    split <;> simp <;> omega
theorem sameK_get {x : Int} : ∀ (t : List Int) (j : Nat), j < sameK x t → t.getD j 0 = x
  | [], j, h => by simp [sameK] at h
  | y :: t, j, h => by
    rw [sameK] at h
    split at h
    · next he =>
      cases j with
      | zero => simpa using he
      | succ j => simpa using sameK_get t j (by omega)
    · omega
theorem sameK_end {x : Int} : ∀ (t : List Int), sameK x t < t.length → t.getD (sameK x t) 0 ≠ x
  | [], h => by simp at h
  | y :: t, h => by
    rw [sameK] at h ⊢
    split
    · next he =>
      rw [if_pos he] at h
      have := sameK_end t (by simpa using h)
      simpa using this
    · next he => simpa using he

theorem runs_fuel : ∀ (f g : Nat) (X : List Int), X.length ≤ f → X.length ≤ g → runsN f X = runsN g X := by
  intro f
  induction f with
  | zero =>
    intro g X hf hg
    have : X = [] := List.eq_nil_of_length_eq_zero (by omega)
    subst this
    cases g <;> rfl
  | succ f ih =>
    intro g X hf hg
    cases X with
    | nil => cases g <;> rfl
    | cons x t =>
      obtain ⟨g, rfl⟩ : ∃ g', g = g' + 1 := ⟨g - 1, by simp at hg; omega⟩
      simp only [List.length_cons] at hf hg
      have hd : ∀ j, 1 ≤ j → runsN f ((x :: t).drop j) = runsN g ((x :: t).drop j) := fun j hj => ih g _ (by rw [List.length_drop, List.length_cons]; omega) (by rw [List.length_drop, List.length_cons]; omega)
      rw [runsN, runsN, hd _ (by omega), hd _ (by omega), hd _ (by omega), ih g t (by omega) (by omega)]
/-- The rest of runs, behind so many. -/
theorem runs_rest {f n k : Nat} {X : List Int} (h : X.length = n) (hk : 1 ≤ k) (hf : n ≤ f + 1) : runsN f (X.drop k) = runsN (n - k) (X.drop k) :=
  runs_fuel _ _ _ (by rw [List.length_drop]; omega) (by rw [List.length_drop]; omega)
section
variable {w0 w : World} {ps : List Piece} {e : TypeId} {size n : Nat} {v : Value} {xs : List Value} {P : Program} {t : TypeId} {z : Value} {bytes : Nat}
/-- 'out = append(out, x, y)', the new elements in a fresh block. -/
theorem wpList_append_many {ops : Array Oper} {rest : List Oper} {o : Oper} {a : Act} {Q : Exit → Act → World → Prop} (hgd : o.guard = none) (s x : Operand)
    (ho : o.op = .call { callee := .builtin .append, args := #[s, x], argTypes := #[t, t] })
    (ht : P.underlying t = some (.slice e)) (hinfo : (P.info? e).map (fun i => (i.zero, i.size, i.bytes)) = some (some z, size, bytes)) (hzs : z.cells.size = size) (hsz : 0 < size)
    (hs : a.eval s = v) (H : Own w0 w (slc e size v n xs :: ps))
    {news : List Value} {m c : Nat} (hx : a.eval x = .slice (some ⟨w.heap.size, 0, none⟩) m c) (hc : c = m) (hm : m ≤ 1000) (hl : news.length = m * size) (h1 : ∀ u ∈ news, u.oneCell' = true)
    (h63 : n + m ≤ 9223372036854775807) (hbytes : (n + m) * bytes ≤ 140737488355328)
    (h : ∀ v' w', Own w0 w' (slc e size v' (n + m) (xs ++ news) :: ps) → wpList P ops Q rest (a.put o.dst v') w') : wpList P ops Q (o :: rest) a (w.alloc (.cells news.toArray e)) := by
  subst hc
  refine wpList_append_sep hgd s x ho ht hinfo hzs hsz hs (H.alloc' _) (m := c) (news := news) ?_ h1 h63 hbytes h
  rw [hx]
  exact ((H.made news e size c hl (by simp [maxLen]; omega)).rd)
end

set_option maxRecDepth 100000 in
set_option maxHeartbeats 12800000 in
theorem runs_any {w : World} {v : Value} {m : Nat} {L : List Int} (hr : Rd w 1 v m (nums L)) (hm : m ≤ 1000) :
    Calls Try.prog 59 #[v] w (Ret fun r w' => Own w w' [slc 102 3 r (runsF L).length (rows rcell (runsF L))]) := by
  have H := (Own.start w).nil 102 3
  have hLn := rd_len hr
  obtain ⟨R, hR⟩ : ∃ R, Hid (runsF L = R) := ⟨_, Lib.hid rfl⟩
  rw [hR.out]
  have hR0 : Hid ([] ++ runsN m L = R) := Lib.hid (by rw [List.nil_append, ← hR.out, ← hLn]; rfl)
  have HR := Lib.hid hr
  have HLN := Lib.hid hLn
  obtain ⟨a0, c0, rfl, -⟩ := hr.shape
  clear hr hLn hR
  go_enter Try.func59, Try.ntmps59
  go_wp2_with fail
  go_loopw [0, 3] (fun s0 s3 wx => ∃ (X : List Int) (n q : Nat) (rs : List Run), Hid (Rd w 1 s0 n (nums X)) ∧ Hid (X.length = n) ∧ n ≤ 1000 ∧ q + 2 * n ≤ 2000 ∧ Hid (rs ++ runsN n X = R) ∧ Hid (rs.length = q) ∧ Own w wx [slc 102 3 s3 q (rows rcell rs)]) (fun s0 _ _ => sliceLen s0)
  case atStart => exact ⟨L, m, 0, [], HR, HLN, hm, by omega, hR0, Lib.hid rfl, H⟩
  case round =>
    clear H HR HLN hR0
    obtain ⟨X, n, q, rs, HU, hXl, hn, hq, hRs, hql, H⟩ := hrel
    obtain ⟨sa, sc, rfl, hsc1, hsc2⟩ := HU.out.shape
    obtain ⟨ra, rc, rfl, hrc1, hrc2⟩ := H.rd.shape
    by_cases h0 : 0 < n
    · have h0I : (0 : Int) < (n : Int) := by omega
      obtain ⟨x, t, rfl⟩ : ∃ x t, X = x :: t := by
        cases X with
        | nil => have := hXl.out; simp at this; omega
        | cons x t => exact ⟨x, t, rfl⟩
      have htl : t.length = n - 1 := by have := hXl.out; simp at this; omega
      obtain ⟨b, o, _, he, -⟩ := HU.out.some (by rw [nums_length, hXl.out]; exact h0)
      cases he
      obtain ⟨K, hK⟩ : ∃ K, Hid (sameK x t + 1 = K) := ⟨_, Lib.hid rfl⟩
      have hKn : K ≤ n := by rw [← hK.out]; have := sameK_le x t; omega
      have hK1 : 1 ≤ K := by rw [← hK.out]; omega
      have g : ∀ (w' : World) (ps' : List Piece), Own w w' ps' → ∀ j, j < n → w'.cell? ⟨b, o + j, none⟩ = some (.int .i64 ((x :: t).getD j 0)) := fun w' ps' h j hj => by
        have h2 := rd_at HU.out h hj
        obtain ⟨_, _, e, h3⟩ := h2
        cases e
        exact h3
      have hg0 : Hid (∀ j, j < K → (x :: t).getD j 0 = x) := Lib.hid (fun j hj => by
        cases j with
        | zero => rfl
        | succ j => simpa using sameK_get t j (by rw [← hK.out] at hj; omega))
      have hgK : Hid (K < n → (x :: t).getD K 0 ≠ x) := Lib.hid (fun h => by
        rw [← hK.out] at h ⊢
        have := sameK_end (x := x) t (by omega)
        simpa using this)
      have G := Lib.hid g
      clear g htl
      go_wp2_with fail
      go_loopw [4] (fun s4 wx => ∃ k : Nat, s4 = .int .i64 k ∧ 1 ≤ k ∧ k ≤ K ∧ Own w wx [slc 102 3 (.slice ra q rc) q (rows rcell rs)]) (fun s4 _ => 1000 - (intOf s4).toNat)
      case atStart => exact ⟨1, by go_num, by omega, hK1, H⟩
      case round =>
        clear H
        obtain ⟨k, rfl, hk1, hkK, H⟩ := hrel
        have hcase : k < K ∨ k = K ∧ K < n ∨ k = K ∧ Hid (K = n) := by
          rcases Nat.lt_or_ge k K with h | h
          · exact .inl h
          · rcases Nat.lt_or_ge K n with h2 | h2
            · exact .inr (.inl ⟨by omega, h2⟩)
            · exact .inr (.inr ⟨by omega, Lib.hid (by omega)⟩)
        rcases hcase with hlt | ⟨rfl, hlt⟩ | ⟨rfl, hlt⟩
        · have hkI : (k : Int) < (n : Int) := by omega
          have hkn : k < n := by omega
          have G2 := Lib.hid (fun w1 (h : Own w w1 [slc 102 3 (.slice ra q rc) q (rows rcell rs)]) => And.intro (G.out w1 _ h 0 h0) (G.out w1 _ h k hkn))
          rw [hg0.out 0 (by omega), hg0.out k hlt, Nat.add_zero] at G2
          go_upto_region 4 with (fail)
          refine wp_region_calm (fun w1 => Own w w1 [slc 102 3 (.slice ra q rc) q (rows rcell rs)]) 13 (by kernel_rfl) (by kernel_rfl) H.drew ?_
          simp only [List.take_succ_cons, List.take_zero, List.drop_succ_cons, List.drop_zero]
          repeat
            first
            | (refine calm_value (v := ?_) (by decide) rfl (fun σ w1 hS => ?_) ?_
               rotate_left
               · obtain ⟨c1, c2⟩ := G2.out _ hS
                 first | (go_simp; rfl) | rfl
               simp only [Act.put, List.setIfInBounds_toArray, List.set_cons_zero, List.set_cons_succ])
            | (refine calm_skip (by decide) rfl ?_
               simp only [Act.put, List.setIfInBounds_toArray, List.set_cons_zero, List.set_cons_succ])
          refine calm_nil ?_
          intro wd HD
          clear H
          go_wp2_with fail
          go_roundw
          case rel => exact ⟨k + 1, by go_num, by omega, by omega, HD⟩
          case measure => simp [intOf]; omega
        case' inr.inl =>
          have hkI : (k : Int) < (n : Int) := by omega
          obtain ⟨y, hy⟩ : ∃ y, Hid ((x :: t).getD k 0 = y) := ⟨_, Lib.hid rfl⟩
          have hyx : (y == x) = false := by have := hgK.out hlt; rw [hy.out] at this; simpa using this
          have G2 := Lib.hid (fun w1 (h : Own w w1 [slc 102 3 (.slice ra q rc) q (rows rcell rs)]) => And.intro (G.out w1 _ h 0 h0) (G.out w1 _ h k hlt))
          rw [hg0.out 0 (by omega), hy.out, Nat.add_zero] at G2
          go_upto_region 4 with (fail)
          refine wp_region_calm (fun w1 => Own w w1 [slc 102 3 (.slice ra q rc) q (rows rcell rs)]) 13 (by kernel_rfl) (by kernel_rfl) H.drew ?_
          simp only [List.take_succ_cons, List.take_zero, List.drop_succ_cons, List.drop_zero]
          repeat
            first
            | (refine calm_value (v := ?_) (by decide) rfl (fun σ w1 hS => ?_) ?_
               rotate_left
               · obtain ⟨c1, c2⟩ := G2.out _ hS
                 first | (go_simp; rfl) | rfl
               simp only [Act.put, List.setIfInBounds_toArray, List.set_cons_zero, List.set_cons_succ])
            | (refine calm_skip (by decide) rfl ?_
               simp only [Act.put, List.setIfInBounds_toArray, List.set_cons_zero, List.set_cons_succ])
          refine calm_nil ?_
          intro wd HD
          clear H hyx hy G2
        case' inr.inr =>
          have hkI : ¬ (k : Int) < (n : Int) := by have := hlt.out; omega
          go_upto_region 4 with (fail)
          refine wp_region_calm (fun w1 => Own w w1 [slc 102 3 (.slice ra q rc) q (rows rcell rs)]) 13 (by kernel_rfl) (by kernel_rfl) H.drew ?_
          simp only [List.take_succ_cons, List.take_zero, List.drop_succ_cons, List.drop_zero]
          repeat
            first
            | (refine calm_value (v := ?_) (by decide) rfl (fun σ w1 hS => ?_) ?_
               rotate_left
               · skip
                 first | (go_simp; rfl) | rfl
               simp only [Act.put, List.setIfInBounds_toArray, List.set_cons_zero, List.set_cons_succ])
            | (refine calm_skip (by decide) rfl ?_
               simp only [Act.put, List.setIfInBounds_toArray, List.set_cons_zero, List.set_cons_succ])
          refine calm_nil ?_
          intro wd HD
          clear H
        all_goals
          clear hkI hlt
          obtain ⟨n, rfl⟩ : ∃ n', n = n' + 1 := ⟨n - 1, by omega⟩
          have H := HD
          clear HD
          have c1 := G.out wd _ H 0 (by omega)
          rw [hg0.out 0 (by omega), Nat.add_zero] at c1
          have hRs2 := hRs.out
          rw [runsN, hK.out] at hRs2
          have hrest := fun j (hj : 1 ≤ j) => runs_rest (f := n) (k := j) hXl.out hj (Nat.le_refl _)
          have hcI : ((n + 1 : Nat) : Int) ≤ (sc : Int) := by omega
          have hkn2 : (k : Int) ≤ ((n + 1 : Nat) : Int) := by omega
          clear G hg0 hgK hK hRs
          by_cases hA : x = 0 ∧ 10 < k
          · rw [if_pos hA, hrest _ (by omega)] at hRs2
            obtain ⟨rfl, hk10⟩ := hA
            have hk10I : (10 : Int) < (k : Int) := by omega
            obtain ⟨kk, hkk⟩ : ∃ kk, Hid (min k 138 = kk) := ⟨_, Lib.hid rfl⟩
            rw [hkk.out] at hRs2
            have hkk1 : 11 ≤ kk := by rw [← hkk.out]; omega
            have hkk2 : kk ≤ n + 1 := by rw [← hkk.out]; omega
            have hkc : (kk : Int) ≤ (sc : Int) := by omega
            have hkn3 : (kk : Int) ≤ ((n + 1 : Nat) : Int) := by omega
            have hkb : kk ≤ 1000 := by omega
            have hw : IntKind.i64.wrap ((kk : Int) - 11) = (kk : Int) - 11 := IntWalk.i64_in _ ⟨by omega, by omega⟩
            go_upto_region 9 with (fail)
            go_cut [4, 40, 41] (fun s4 _ _ wx => wx = wd ∧ s4 = .int .i64 kk)
            case first =>
              have := hkk.out
              go_wp2
              all_goals go_meet
              all_goals exact ⟨rfl, val_int (by omega)⟩
            case rest =>
            obtain ⟨rfl, rfl⟩ := hcut
            have hrow : rows rcell rs ++ [.int .i64 (18), .int .i64 (7), .int .i64 ((kk : Int) - 11)] = rows rcell (rs ++ [(⟨18, 7, (kk : Int) - 11⟩ : Run)]) := by rw [rows_append]; rfl
            have hfin : (rs ++ [(⟨18, 7, (kk : Int) - 11⟩ : Run)]) ++ runsN (n + 1 - (kk)) ((0 :: t).drop (kk)) = R := by rw [← hRs2]; exact List.append_assoc _ _ _
            have hql2 : Hid ((rs ++ [(⟨18, 7, (kk : Int) - 11⟩ : Run)]).length = q + 1) := Lib.hid (by rw [List.length_append, hql.out]; rfl)
            have htail := rd_tailK HU.out (k := kk) (by omega)
            have HROW := Lib.hid hrow
            have HFIN := Lib.hid hfin
            have HTAIL := Lib.hid htail
            have hXl2 : Hid (((0 :: t).drop (kk)).length = n + 1 - (kk)) := Lib.hid (by rw [List.length_drop, hXl.out])
            clear hrow hfin htail hRs2
            go_wp2_with (at_builtin; refine wpList_append_one rfl _ _ rfl Try.underlying99 runInfo rfl (by decide) rfl H (news := [.int .i64 (18), .int .i64 (7), .int .i64 ((kk : Int) - 11)]) rfl rfl rfl (by simp [Value.oneCell']) (by omega) (by omega) ?_; clear H c1; intro v' w' H; rw [HROW.out] at H; obtain ⟨ra2, rc2, rfl, -⟩ := H.rd.shape)
            go_roundw
            case rel => exact ⟨_, _, _, _, HTAIL, hXl2, by omega, by omega, HFIN, hql2, H⟩
            case measure => simp [sliceLen] <;> omega

          · rw [if_neg hA] at hRs2
            by_cases hB : x = 0 ∧ 2 < k
            · rw [if_pos hB, hrest _ (by omega)] at hRs2
              obtain ⟨rfl, hk2⟩ := hB
              have hk10I : ¬ (10 : Int) < (k : Int) := by omega
              have hk2I : (2 : Int) < (k : Int) := by omega
              have hw : IntKind.i64.wrap ((k : Int) - 3) = (k : Int) - 3 := IntWalk.i64_in _ ⟨by omega, by omega⟩
              clear hA
              have hrow : rows rcell rs ++ [.int .i64 (17), .int .i64 (3), .int .i64 ((k : Int) - 3)] = rows rcell (rs ++ [(⟨17, 3, (k : Int) - 3⟩ : Run)]) := by rw [rows_append]; rfl
              have hfin : (rs ++ [(⟨17, 3, (k : Int) - 3⟩ : Run)]) ++ runsN (n + 1 - (k)) ((0 :: t).drop (k)) = R := by rw [← hRs2]; exact List.append_assoc _ _ _
              have hql2 : Hid ((rs ++ [(⟨17, 3, (k : Int) - 3⟩ : Run)]).length = q + 1) := Lib.hid (by rw [List.length_append, hql.out]; rfl)
              have htail := rd_tailK HU.out (k := k) (by omega)
              have HROW := Lib.hid hrow
              have HFIN := Lib.hid hfin
              have HTAIL := Lib.hid htail
              have hXl2 : Hid (((0 :: t).drop (k)).length = n + 1 - (k)) := Lib.hid (by rw [List.length_drop, hXl.out])
              clear hrow hfin htail hRs2
              go_wp2_with (at_builtin; refine wpList_append_one rfl _ _ rfl Try.underlying99 runInfo rfl (by decide) rfl H (news := [.int .i64 (17), .int .i64 (3), .int .i64 ((k : Int) - 3)]) rfl rfl rfl (by simp [Value.oneCell']) (by omega) (by omega) ?_; clear H c1; intro v' w' H; rw [HROW.out] at H; obtain ⟨ra2, rc2, rfl, -⟩ := H.rd.shape)
              go_roundw
              case rel => exact ⟨_, _, _, _, HTAIL, hXl2, by omega, by omega, HFIN, hql2, H⟩
              case measure => simp [sliceLen] <;> omega

            · rw [if_neg hB] at hRs2
              by_cases hC : 3 < k
              · rw [if_pos hC, hrest _ (by omega)] at hRs2
                have hx0 : (x == 0) = false := by simp; omega
                have hCI : (3 : Int) < (k : Int) := by omega
                clear hA hB
                obtain ⟨kk, hkk⟩ : ∃ kk, Hid (min k 7 = kk) := ⟨_, Lib.hid rfl⟩
                rw [hkk.out] at hRs2
                have hkk1 : 4 ≤ kk := by rw [← hkk.out]; omega
                have hkk2 : kk ≤ n + 1 := by rw [← hkk.out]; omega
                have hkc : (kk : Int) ≤ (sc : Int) := by omega
                have hkn3 : (kk : Int) ≤ ((n + 1 : Nat) : Int) := by omega
                have hkb : kk ≤ 1000 := by omega
                have hw : IntKind.i64.wrap ((kk : Int) - 4) = (kk : Int) - 4 := IntWalk.i64_in _ ⟨by omega, by omega⟩
                go_upto_region 14 with (fail)
                go_cut [4, 66, 67] (fun s4 _ _ wx => wx = wd ∧ s4 = .int .i64 kk)
                case first =>
                  have := hkk.out
                  go_wp2
                  all_goals go_meet
                  all_goals exact ⟨rfl, val_int (by omega)⟩
                case rest =>
                obtain ⟨rfl, rfl⟩ := hcut
                have hrow : rows rcell rs ++ [.int .i64 (x), .int .i64 (0), .int .i64 (0), .int .i64 (16), .int .i64 (2), .int .i64 ((kk : Int) - 4)] = rows rcell (rs ++ [(⟨x, 0, 0⟩ : Run), (⟨16, 2, (kk : Int) - 4⟩ : Run)]) := by rw [rows_append]; rfl
                have hfin : (rs ++ [(⟨x, 0, 0⟩ : Run), (⟨16, 2, (kk : Int) - 4⟩ : Run)]) ++ runsN (n + 1 - (kk)) ((x :: t).drop (kk)) = R := by rw [← hRs2]; exact List.append_assoc _ _ _
                have hql2 : Hid ((rs ++ [(⟨x, 0, 0⟩ : Run), (⟨16, 2, (kk : Int) - 4⟩ : Run)]).length = q + 2) := Lib.hid (by rw [List.length_append, hql.out]; rfl)
                have htail := rd_tailK HU.out (k := kk) (by omega)
                have HROW := Lib.hid hrow
                have HFIN := Lib.hid hfin
                have HTAIL := Lib.hid htail
                have hXl2 : Hid (((x :: t).drop (kk)).length = n + 1 - (kk)) := Lib.hid (by rw [List.length_drop, hXl.out])
                clear hrow hfin htail hRs2
                go_wp2_with (at_builtin; refine wpList_append_many rfl _ _ rfl Try.underlying99 runInfo rfl (by decide) rfl H (news := [.int .i64 (x), .int .i64 (0), .int .i64 (0), .int .i64 (16), .int .i64 (2), .int .i64 ((kk : Int) - 4)]) rfl rfl (Nat.le_of_ble_eq_true rfl) rfl (by simp [Value.oneCell']) (by omega) (by omega) ?_; clear H c1; intro v' w' H; rw [HROW.out] at H; obtain ⟨ra2, rc2, rfl, -⟩ := H.rd.shape)
                go_roundw
                case rel => exact ⟨_, _, _, _, HTAIL, hXl2, by omega, by omega, HFIN, hql2, H⟩
                case measure => simp [sliceLen] <;> omega

              · rw [if_neg hC] at hRs2
                rw [show runsN n t = runsN n ((x :: t).drop 1) from rfl, hrest 1 (by omega)] at hRs2
                have hCI : ¬ (3 : Int) < (k : Int) := by omega
                have h10 : ¬ (10 : Int) < (k : Int) := by omega
                by_cases hx : x = 0
                · subst hx
                  have h2 : ¬ (2 : Int) < (k : Int) := by omega
                  clear hA hB
                  have hrow : rows rcell rs ++ [.int .i64 (0), .int .i64 (0), .int .i64 (0)] = rows rcell (rs ++ [(⟨0, 0, 0⟩ : Run)]) := by rw [rows_append]; rfl
                  have hfin : (rs ++ [(⟨0, 0, 0⟩ : Run)]) ++ runsN (n + 1 - (1)) ((0 :: t).drop (1)) = R := by rw [← hRs2]; exact List.append_assoc _ _ _
                  have hql2 : Hid ((rs ++ [(⟨0, 0, 0⟩ : Run)]).length = q + 1) := Lib.hid (by rw [List.length_append, hql.out]; rfl)
                  have htail := rd_tailK HU.out (k := 1) (by omega)
                  have HROW := Lib.hid hrow
                  have HFIN := Lib.hid hfin
                  have HTAIL := Lib.hid htail
                  have hXl2 : Hid (((0 :: t).drop (1)).length = n + 1 - (1)) := Lib.hid (by rw [List.length_drop, hXl.out])
                  clear hrow hfin htail hRs2
                  go_wp2_with (at_builtin; refine wpList_append_one rfl _ _ rfl Try.underlying99 runInfo rfl (by decide) rfl H (news := [.int .i64 (0), .int .i64 (0), .int .i64 (0)]) rfl rfl rfl (by simp [Value.oneCell']) (by omega) (by omega) ?_; clear H c1; intro v' w' H; rw [HROW.out] at H; obtain ⟨ra2, rc2, rfl, -⟩ := H.rd.shape)
                  go_roundw
                  case rel => exact ⟨_, _, _, _, HTAIL, hXl2, by omega, by omega, HFIN, hql2, H⟩
                  case measure => simp [sliceLen] <;> omega

                · have hxb : (x == 0) = false := by simpa using hx
                  clear hA hB
                  have hrow : rows rcell rs ++ [.int .i64 (x), .int .i64 (0), .int .i64 (0)] = rows rcell (rs ++ [(⟨x, 0, 0⟩ : Run)]) := by rw [rows_append]; rfl
                  have hfin : (rs ++ [(⟨x, 0, 0⟩ : Run)]) ++ runsN (n + 1 - (1)) ((x :: t).drop (1)) = R := by rw [← hRs2]; exact List.append_assoc _ _ _
                  have hql2 : Hid ((rs ++ [(⟨x, 0, 0⟩ : Run)]).length = q + 1) := Lib.hid (by rw [List.length_append, hql.out]; rfl)
                  have htail := rd_tailK HU.out (k := 1) (by omega)
                  have HROW := Lib.hid hrow
                  have HFIN := Lib.hid hfin
                  have HTAIL := Lib.hid htail
                  have hXl2 : Hid (((x :: t).drop (1)).length = n + 1 - (1)) := Lib.hid (by rw [List.length_drop, hXl.out])
                  clear hrow hfin htail hRs2
                  go_wp2_with (at_builtin; refine wpList_append_one rfl _ _ rfl Try.underlying99 runInfo rfl (by decide) rfl H (news := [.int .i64 (x), .int .i64 (0), .int .i64 (0)]) rfl rfl rfl (by simp [Value.oneCell']) (by omega) (by omega) ?_; clear H c1; intro v' w' H; rw [HROW.out] at H; obtain ⟨ra2, rc2, rfl, -⟩ := H.rd.shape)
                  go_roundw
                  case rel => exact ⟨_, _, _, _, HTAIL, hXl2, by omega, by omega, HFIN, hql2, H⟩
                  case measure => simp [sliceLen] <;> omega

    · have hn0 : n = 0 := by omega
      subst hn0
      have hRR : rs = R := by
        rw [← hRs.out]; simp [runsN]
      subst hRR
      have h0I : ¬ (0 : Int) < ((0 : Nat) : Int) := by omega
      go_wp2_with fail
      go_ret
      exact ⟨_, rfl, by rw [hql.out]; exact H⟩
end Go.Proofs.Ytljejkdkjnbmhaa
/- The stable sort of slices of ints: the walks of swapRange, rotate. (Written by tools/srt.py.) -/
namespace Go.Proofs.Ytljejkdkjnbmhaa
open Go.RowKit

namespace SI
def ie (x : Int) : List Value := [.int .i64 x]
theorem e_length (x : Int) : (ie x).length = 1 := rfl
theorem e_one (x : Int) : ∀ u ∈ ie x, u.oneCell' = true := by intro u hu; simp [ie] at hu; subst hu; rfl
/-- A slice of them. -/
abbrev Sl (v : Value) (l : List Int) : Piece := slc 3 1 v l.length (rows ie l)
theorem el {w : World} {b c i n : Nat} {l : List Int} {x : Int} (h : Rd w 1 (.slice (some ⟨b, 0, none⟩) n c) n (rows ie l)) (hx : l[i]? = some x) :
    w.cell? ⟨b, i, none⟩ = some (.int .i64 x) ∧ True := by
  have h0 := h.cell ((rows_get ie e_length hx 0 (by omega)).trans rfl)
  rw [Nat.zero_add, Nat.mul_one] at h0
  exact ⟨h0, trivial⟩
theorem set_rows {l : List Int} {i : Nat} (hi : i < l.length) (y : Int) : (rows ie l).take (i * 1) ++ ie y ++ (rows ie l).drop (i * 1 + 1) = rows ie (l.set i y) := (rows_set ie e_length hi y).symm
theorem set_swap {α : Type} (u v w : List α) (x y : α) {i j : Nat} (hi : i = u.length) (hj : j = u.length + 1 + v.length) :
    ((u ++ x :: (v ++ y :: w)).set i y).set j x = u ++ y :: (v ++ x :: w) := by
  subst hi hj
  rw [List.set_append_right _ _ (Nat.le_refl _), Nat.sub_self, List.set_cons_zero, List.set_append_right _ _ (by omega), show u.length + 1 + v.length - u.length = v.length + 1 by omega, List.set_cons_succ, List.set_append_right _ _ (Nat.le_refl _), Nat.sub_self, List.set_cons_zero]
theorem get_mid {α : Type} (u w : List α) (x : α) {i : Nat} (hi : i = u.length) : (u ++ x :: w)[i]? = some x := by
  subst hi
  rw [List.getElem?_append_right (Nat.le_refl _), Nat.sub_self]; rfl

section
variable {w0 w : World} {ps : List Piece}
set_option maxRecDepth 100000 in
set_option maxHeartbeats 3200000 in
theorem swap_any {g c N : Nat} {p x m y q : List Int} {a b n : Nat} (cmp : Value) (ha : a = p.length) (hb : b = a + x.length + m.length) (hn : n = x.length) (hy : y.length = x.length) (hN : N = (p ++ x ++ m ++ y ++ q).length) (hNb : N ≤ 1000000)
    (H : Own w0 w (slc 3 1 (.slice (some ⟨g, 0, none⟩) N c) N (rows ie (p ++ x ++ m ++ y ++ q)) :: ps)) :
    Calls Try.prog 91 #[.slice (some ⟨g, 0, none⟩) N c, .int .i64 a, .int .i64 b, .int .i64 n, cmp] w (Ret fun _ w' => Own w0 w' (slc 3 1 (.slice (some ⟨g, 0, none⟩) N c) N (rows ie (p ++ y ++ m ++ x ++ q)) :: ps)) := by
  have hN1 : N = a + n + m.length + n + q.length := by rw [hN]; simp only [List.length_append]; omega
  have hbn : b = a + n + m.length := by omega
  have HX := Lib.hid hn
  have HY := Lib.hid hy
  have HP := Lib.hid ha
  have HB := Lib.hid hbn
  have HN1 := Lib.hid hN1
  have hab : a + n ≤ b := by omega
  have hbN : b + n ≤ N := by omega
  have hNc : N ≤ c := by obtain ⟨_, _, e, h1, _⟩ := H.rd.shape; cases e; exact h1
  have hc2 : c ≤ 9223372036854775807 := by obtain ⟨_, _, e, _, h1⟩ := H.rd.shape; cases e; exact h1
  clear ha hb hn hy hN hbn hN1
  go_enter Try.func91, Try.ntmps91
  go_wp2_with fail
  go_loopw [10] (fun s10 wx => ∃ (i : Nat) (x1 x2 y1 y2 : List Int), i ≤ n ∧ s10 = .int .i64 i ∧ Hid (x = x1 ++ x2) ∧ Hid (y = y1 ++ y2) ∧ Hid (x1.length = i) ∧ Hid (y1.length = i) ∧ Own w0 wx (slc 3 1 (.slice (some ⟨g, 0, none⟩) N c) N (rows ie (p ++ y1 ++ x2 ++ m ++ x1 ++ y2 ++ q)) :: ps)) (fun s10 _ => n - (intOf s10).toNat)
  case atStart => exact ⟨0, [], x, [], y, by omega, rfl, Lib.hid rfl, Lib.hid rfl, Lib.hid rfl, Lib.hid rfl, by simpa using H⟩
  case round =>
    clear H
    obtain ⟨i, x1, x2, y1, y2, hi, rfl, hx, hy, hx1, hy1, H⟩ := hrel
    by_cases hlt : i < n
    · obtain ⟨u, x3, hx2⟩ : ∃ u x3, x2 = u :: x3 := by
        cases x2 with
        | nil => exfalso; have h1 := hx.out; have h2 := HX.out; have h3 := hx1.out; rw [h1] at h2; simp at h2; omega
        | cons u x3 => exact ⟨u, x3, rfl⟩
      obtain ⟨v, y3, hy2⟩ : ∃ v y3, y2 = v :: y3 := by
        cases y2 with
        | nil => exfalso; have h1 := hy.out; have h2 := HX.out; have h3 := hy1.out; have h4 := HY.out; rw [h1] at h4; simp at h4; omega
        | cons v y3 => exact ⟨v, y3, rfl⟩
      subst hx2 hy2
      have el1 : p ++ y1 ++ u :: x3 ++ m ++ x1 ++ v :: y3 ++ q = (p ++ y1) ++ u :: ((x3 ++ m ++ x1) ++ v :: (y3 ++ q)) := by simp
      rw [el1] at H
      have hia : a + i = (p ++ y1).length := by rw [List.length_append, hy1.out, HP.out]
      have hxl : x.length = i + (x3.length + 1) := by rw [hx.out, List.length_append, hx1.out]; simp
      have hib : b + i = (p ++ y1).length + 1 + (x3 ++ m ++ x1).length := by
        have h1 := HX.out
        have h2 := HB.out
        have h3 := hx1.out
        have h4 := HP.out
        have h5 := hy1.out
        simp only [List.length_append]
        omega
      have hLn : ((p ++ y1) ++ u :: ((x3 ++ m ++ x1) ++ v :: (y3 ++ q))).length = N := by
        have h1 := HX.out
        have h2 := HN1.out
        have h3 := hx1.out
        have h4 := HP.out
        have h5 := hy1.out
        have h6 := HY.out
        rw [hy.out] at h6
        simp only [List.length_append, List.length_cons] at h6 ⊢
        omega
      have hg1 : ((p ++ y1) ++ u :: ((x3 ++ m ++ x1) ++ v :: (y3 ++ q)))[a + i]? = some u := get_mid _ _ _ hia
      have hg2 : ((p ++ y1) ++ u :: ((x3 ++ m ++ x1) ++ v :: (y3 ++ q)))[b + i]? = some v := by
        have : (p ++ y1) ++ u :: ((x3 ++ m ++ x1) ++ v :: (y3 ++ q)) = ((p ++ y1) ++ u :: (x3 ++ m ++ x1)) ++ v :: (y3 ++ q) := by simp
        rw [this]
        exact get_mid _ _ _ (by rw [hib]; simp only [List.length_append, List.length_cons]; omega)
      have hsw := set_swap (p ++ y1) (x3 ++ m ++ x1) (y3 ++ q) u v hia hib
      obtain ⟨L, hL⟩ : ∃ L, Hid ((p ++ y1) ++ u :: ((x3 ++ m ++ x1) ++ v :: (y3 ++ q)) = L) := ⟨_, rfl⟩
      rw [hL.out] at H hg1 hg2 hsw hLn
      have HG1 := Lib.hid hg1
      have HG2 := Lib.hid hg2
      have HLN := Lib.hid hLn
      have e1 : (rows ie L).take ((a + i) * 1) ++ ie v ++ (rows ie L).drop ((a + i) * 1 + 1) = rows ie (L.set (a + i) v) := set_rows (by rw [hLn]; omega) v
      have e2 : (rows ie (L.set (a + i) v)).take ((b + i) * 1) ++ ie u ++ (rows ie (L.set (a + i) v)).drop ((b + i) * 1 + 1) = rows ie (p ++ (y1 ++ [v]) ++ x3 ++ m ++ (x1 ++ [u]) ++ y3 ++ q) := by
        rw [set_rows (by rw [List.length_set, hLn]; omega) u, hsw]
        simp
      have E1 := Lib.hid e1
      have E2 := Lib.hid e2
      have hX' : Hid (x = (x1 ++ [u]) ++ x3) := Lib.hid (by rw [hx.out]; simp)
      have hY' : Hid (y = (y1 ++ [v]) ++ y3) := Lib.hid (by rw [hy.out]; simp)
      have hx1' : Hid ((x1 ++ [u]).length = i + 1) := Lib.hid (by rw [List.length_append, hx1.out]; rfl)
      have hy1' : Hid ((y1 ++ [v]).length = i + 1) := Lib.hid (by rw [List.length_append, hy1.out]; rfl)
      have haw : IntKind.i64.wrap ((a : Int) + (i : Int)) = (a : Int) + (i : Int) := IntWalk.i64_in _ ⟨by omega, by omega⟩
      have hbw : IntKind.i64.wrap ((b : Int) + (i : Int)) = (b : Int) + (i : Int) := IntWalk.i64_in _ ⟨by omega, by omega⟩
      have haT : ((a : Int) + (i : Int)).toNat = a + i := by omega
      have hbT : ((b : Int) + (i : Int)).toNat = b + i := by omega
      have haI : (a : Int) + (i : Int) < (N : Int) := by omega
      have hbI : (b : Int) + (i : Int) < (N : Int) := by omega
      clear hg1 hg2 hsw hLn e1 e2 el1 hia hib hxl hL
      go_upto_region 3 with (fail)
      refine wp_region_pres (fun _ w1 => Own w0 w1 (slc 3 1 (.slice (some ⟨g, 0, none⟩) N c) N (rows ie L) :: ps)) 20 [] [4, 5, 6, 7] (by kernel_rfl) (by kernel_rfl) (by kernel_rfl) (by kernel_rfl) (fun _ _ d _ _ h => by cases d <;> exact h) ⟨_, _, rfl, fun w => (by first | rfl | (go_simp; rfl)), _, _, rfl, fun w => (by first | rfl | (go_simp; rfl)), _, _, rfl, fun w => (by first | rfl | (go_simp; rfl)), _, _, rfl, fun w => (by first | rfl | (go_simp; rfl)), rfl⟩ H.drew ?_
      simp only [List.take_succ_cons, List.take_zero, List.drop_succ_cons, List.drop_zero]
      repeat
        first
        | (refine calm_value (v := ?_) (by decide) rfl (fun σ w1 hS => ?_) ?_
           rotate_left
           · obtain ⟨c1, c1'⟩ := el hS.rd HG1.out; obtain ⟨c2, c2'⟩ := el hS.rd HG2.out
             first | (go_simp; rfl) | rfl
           simp only [Act.put, List.setIfInBounds_toArray, List.set_cons_zero, List.set_cons_succ])
        | (refine calm_skip (by decide) rfl ?_
           simp only [Act.put, List.setIfInBounds_toArray, List.set_cons_zero, List.set_cons_succ])
      refine calm_nil ?_
      intro σ2 wd2 _ H2
      simp only [putNew, List.foldl_nil]
      clear H
      go_wp2_with (first
        | (refine wpList_store_elem rfl _ _ rfl (i := a + i) (by first | rfl | (rw [Nat.mul_one]; rfl)) H2 (ie v) rfl (by kernel_rfl) rfl (by omega) (e_one v) ?_; clear H2; intro w5 H; rw [E1.out] at H)
        | (refine wpList_store_elem rfl _ _ rfl (i := b + i) (by first | rfl | (rw [Nat.mul_one]; rfl)) H (ie u) rfl (by kernel_rfl) rfl (by omega) (e_one u) ?_; clear H; intro w6 H; rw [E2.out] at H))
      go_roundw
      case rel => exact ⟨i + 1, x1 ++ [u], x3, y1 ++ [v], y3, by omega, by go_num, hX', hY', hx1', hy1', H⟩
      case measure => simp [intOf]; omega
    · obtain rfl : i = n := by omega
      have hx2 : x2 = [] := by
        have h1 := HX.out; have h2 := hx1.out
        rw [hx.out, List.length_append] at h1
        exact List.eq_nil_of_length_eq_zero (by omega)
      have hy2 : y2 = [] := by
        have h1 := HX.out; have h2 := hy1.out; have h3 := HY.out
        rw [hy.out, List.length_append] at h3
        exact List.eq_nil_of_length_eq_zero (by omega)
      subst hx2 hy2
      have ex : x1 = x := by rw [hx.out, List.append_nil]
      have ey : y1 = y := by rw [hy.out, List.append_nil]
      have e : p ++ y1 ++ [] ++ m ++ x1 ++ [] ++ q = p ++ y ++ m ++ x ++ q := by rw [ex, ey]; simp
      rw [e] at H
      clear e ex ey
      go_wp2
      go_end0
      exact ⟨_, rfl, H⟩
end
end SI
end Go.Proofs.Ytljejkdkjnbmhaa
/- The stable sort of slices of ints: the walk of rotate. (Written by tools/srt.py.) -/
namespace Go.Proofs.Ytljejkdkjnbmhaa
open Go.RowKit
namespace SI
theorem split_at {α : Type} (l : List α) (n : Nat) (h : n ≤ l.length) : ∃ a b, l = a ++ b ∧ a.length = n := ⟨l.take n, l.drop n, (List.take_append_drop n l).symm, by simp; omega⟩
section
variable {w0 w : World} {ps : List Piece}
set_option maxRecDepth 100000 in
set_option maxHeartbeats 3200000 in
theorem rotate_any {g c N : Nat} {p x y q : List Int} {a m b : Nat} (cmp : Value) (ha : a = p.length) (hm : m = a + x.length) (hb : b = m + y.length) (hx0 : 0 < x.length) (hy0 : 0 < y.length) (hN : N = (p ++ x ++ y ++ q).length) (hNb : N ≤ 1000000)
    (H : Own w0 w (slc 3 1 (.slice (some ⟨g, 0, none⟩) N c) N (rows ie (p ++ x ++ y ++ q)) :: ps)) :
    Calls Try.prog 88 #[.slice (some ⟨g, 0, none⟩) N c, .int .i64 a, .int .i64 m, .int .i64 b, cmp] w (Ret fun _ w' => Own w0 w' (slc 3 1 (.slice (some ⟨g, 0, none⟩) N c) N (rows ie (p ++ y ++ x ++ q)) :: ps)) := by
  obtain ⟨T, hT⟩ : ∃ T, Hid (T = p ++ y ++ x ++ q) := ⟨_, Lib.hid rfl⟩
  rw [← hT.out]
  have hbN : b ≤ N := by rw [hN]; simp only [List.length_append]; omega
  obtain ⟨i0, hi0⟩ : ∃ i, Hid (x.length = i) := ⟨_, rfl⟩
  obtain ⟨j0, hj0⟩ : ∃ j, Hid (y.length = j) := ⟨_, rfl⟩
  rw [hi0.out] at hx0 hm
  rw [hj0.out] at hy0 hb
  have hNn : Hid ((p ++ x ++ y ++ q).length = N) := Lib.hid hN.symm
  have HP := Lib.hid ha
  have ham : m = a + i0 := hm
  have hbm : b = m + j0 := hb
  clear ha hN
  go_enter Try.func88, Try.ntmps88
  have e1 : ((m : Int) - (a : Int)) = (i0 : Int) := by omega
  have e2 : ((b : Int) - (m : Int)) = (j0 : Int) := by omega
  have hst : a + i0 = m ∧ m + j0 ≤ N := ⟨by omega, by omega⟩
  have HST := Lib.hid hst
  have ham2 : a ≤ m := by omega
  have hmb2 : m ≤ b := by omega
  have hbN2 : b ≤ N := by omega
  clear ham hm hst hb hbN hbm
  go_upto_region 2 with (fail)
  go_loopw [10, 11] (fun s10 s11 wx => ∃ (i j pl : Nat) (X Y P Q : List Int), s10 = .int .i64 i ∧ s11 = .int .i64 j ∧ 1 ≤ i ∧ 1 ≤ j ∧ pl + i = m ∧ m + j ≤ N ∧ Hid (X.length = i) ∧ Hid (Y.length = j) ∧ Hid (P.length = pl) ∧ Hid ((P ++ X ++ Y ++ Q).length = N) ∧ Hid (T = P ++ Y ++ X ++ Q) ∧ Own w0 wx (slc 3 1 (.slice (some ⟨g, 0, none⟩) N c) N (rows ie (P ++ X ++ Y ++ Q)) :: ps)) (fun s10 s11 _ => (intOf s10).toNat + (intOf s11).toNat)
  case atStart => exact ⟨i0, j0, a, x, y, p, q, by rw [← e1]; try go_num, by rw [← e2]; try go_num, by omega, by omega, HST.out.1, HST.out.2, hi0, hj0, Lib.hid HP.out.symm, hNn, hT, H⟩
  case round =>
    clear H hNn hT HP hi0 hj0 e1 e2
    obtain ⟨i, j, pl, X, Y, P, Q, rfl, rfl, hi, hj, hpl, hmj, hX, hY, hP, hLn, hT, H⟩ := hrel
    have em : ((m : Int) - (i : Int)) = (pl : Int) := by omega
    have hN1 : (m : Int) + (j : Int) ≤ (N : Int) := by omega
    rcases Nat.lt_trichotomy i j with hij | hij | hij
    · -- the first part is the shorter one
      obtain ⟨d, rfl⟩ : ∃ d, j = d + i := ⟨j - i, by omega⟩
      obtain ⟨bd, hbd⟩ : ∃ bd, bd = m + d := ⟨_, rfl⟩
      have eb : ((m : Int) + ((d + i : Nat) : Int) - (i : Int)) = (bd : Int) := by omega
      have eb' : ((m : Int) + ((d : Int) + (i : Int)) - (i : Int)) = (bd : Int) := by omega
      have ed : ((d : Int) + (i : Int) - (i : Int)) = (d : Int) := by omega
      obtain ⟨Y1, Y2, hYs, hY1⟩ := split_at Y d (by rw [hY.out]; omega)
      subst hYs
      have hY2 : Y2.length = i := by have := hY.out; rw [List.length_append] at this; omega
      have hne : ((i : Int) == ((d : Int) + (i : Int))) = false := by simp; omega
      have hng : ¬ ((d : Int) + (i : Int) < (i : Int)) := by omega
      have el1 : P ++ X ++ (Y1 ++ Y2) ++ Q = P ++ X ++ Y1 ++ Y2 ++ Q := by simp
      rw [el1] at H
      have hLn' : N = (P ++ X ++ Y1 ++ Y2 ++ Q).length := by rw [← el1]; exact hLn.out.symm
      have hNb' : N ≤ 1000000 := hNb
      have hsw := swap_any (w0 := w0) (w := wr) (ps := ps) (g := g) (c := c) (N := N) (p := P) (x := X) (m := Y1) (y := Y2) (q := Q) (a := pl) (b := bd) (n := i) cmp (by rw [hP.out]) (by rw [hX.out, hY1, hbd]; omega) (by rw [hX.out]) (by rw [hY2, hX.out]) hLn' hNb H
      have HSW := Lib.hid hsw
      have el2 : P ++ Y2 ++ Y1 ++ X ++ Q = P ++ Y2 ++ Y1 ++ (X ++ Q) := by simp
      have hT' : Hid (T = P ++ Y1 ++ Y2 ++ (X ++ Q)) := Lib.hid (by rw [hT.out]; simp)
      have hX' : Hid (Y2.length = i) := Lib.hid hY2
      have hY' : Hid (Y1.length = d) := Lib.hid hY1
      have hLn2 : Hid ((P ++ Y2 ++ Y1 ++ (X ++ Q)).length = N) := Lib.hid (by rw [hLn']; simp only [List.length_append]; omega)
      rw [el2] at HSW
      clear hsw el1 el2 hLn' hY1 hY2 hT hX hY hLn hbd
      go_wp2_with fail
      refine HSW.out.mono ?_
      rintro e w3 ⟨_, rfl, H3⟩
      clear HSW H
      go_wp2
      go_roundw
      case rel => exact ⟨i, d, pl, Y2, Y1, P, X ++ Q, rfl, by go_num, by omega, by omega, hpl, by omega, hX', hY', hP, hLn2, hT', H3⟩
      case measure => simp [intOf]; omega
    · subst hij
      have hLn' : N = (P ++ X ++ [] ++ Y ++ Q).length := by have := hLn.out; rw [← this]; simp
      have H' : Own w0 wr (slc 3 1 (.slice (some ⟨g, 0, none⟩) N c) N (rows ie (P ++ X ++ [] ++ Y ++ Q)) :: ps) := by simpa using H
      have hsw := swap_any (w0 := w0) (w := wr) (ps := ps) (g := g) (c := c) (N := N) (p := P) (x := X) (m := []) (y := Y) (q := Q) (a := pl) (b := m) (n := i) cmp (by rw [hP.out]) (by rw [hX.out]; simp; omega) (by rw [hX.out]) (by rw [hY.out, hX.out]) hLn' hNb H'
      have HSW := Lib.hid hsw
      clear hsw H' hLn'
      go_wp2_with fail
      refine HSW.out.mono ?_
      rintro e w3 ⟨_, rfl, H3⟩
      clear HSW H
      go_wp2
      go_end0
      exact ⟨_, rfl, by rw [hT.out]; simpa using H3⟩
    · obtain ⟨d, rfl⟩ : ∃ d, i = j + d := ⟨i - j, by omega⟩
      obtain ⟨X1, X2, hXs, hX1⟩ := split_at X j (by rw [hX.out]; omega)
      subst hXs
      have hX2 : X2.length = d := by have := hX.out; rw [List.length_append] at this; omega
      have em' : ((m : Int) - ((j : Int) + (d : Int))) = (pl : Int) := by omega
      have ed : ((j : Int) + (d : Int) - (j : Int)) = (d : Int) := by omega
      have hne : (((j : Int) + (d : Int)) == (j : Int)) = false := by simp; omega
      have hng : ((j : Int) < (j : Int) + (d : Int)) := by omega
      have el1 : P ++ (X1 ++ X2) ++ Y ++ Q = P ++ X1 ++ X2 ++ Y ++ Q := by simp
      rw [el1] at H
      have hLn' : N = (P ++ X1 ++ X2 ++ Y ++ Q).length := by rw [← el1]; exact hLn.out.symm
      have hsw := swap_any (w0 := w0) (w := wr) (ps := ps) (g := g) (c := c) (N := N) (p := P) (x := X1) (m := X2) (y := Y) (q := Q) (a := pl) (b := m) (n := j) cmp (by rw [hP.out]) (by rw [hX1, hX2]; omega) (by rw [hX1]) (by rw [hY.out, hX1]) hLn' hNb H
      have HSW := Lib.hid hsw
      have el2 : P ++ Y ++ X2 ++ X1 ++ Q = (P ++ Y) ++ X2 ++ X1 ++ Q := by simp
      have hT' : Hid (T = (P ++ Y) ++ X1 ++ X2 ++ Q) := Lib.hid (by rw [hT.out]; simp)
      have hX' : Hid (X2.length = d) := Lib.hid hX2
      have hY' : Hid (X1.length = j) := Lib.hid hX1
      have hP' : Hid ((P ++ Y).length = pl + j) := Lib.hid (by rw [List.length_append, hP.out, hY.out])
      have hLn2 : Hid (((P ++ Y) ++ X2 ++ X1 ++ Q).length = N) := Lib.hid (by rw [hLn']; simp only [List.length_append]; omega)
      clear hsw el1 el2 hLn' hX1 hX2 hT hX hY hLn hP
      go_wp2_with fail
      refine HSW.out.mono ?_
      rintro e w3 ⟨_, rfl, H3⟩
      clear HSW H
      go_wp2
      go_roundw
      case rel => exact ⟨d, j, pl + j, X2, X1, P ++ Y, Q, by go_num, rfl, by omega, by omega, by omega, by omega, hX', hY', hP', hLn2, hT', H3⟩
      case measure => simp [intOf]; omega
end
end SI
end Go.Proofs.Ytljejkdkjnbmhaa
/- The stable sort of slices of ints: the walk of insertionSort. (Written by tools/srt.py.) -/
namespace Go.Proofs.Ytljejkdkjnbmhaa
open Go.RowKit
namespace SI
/-- The function that compares. -/
abbrev cf (B : Nat) : Value := .func (.func 73) #[] #[.pointer (some ⟨B, 0, none⟩)]
abbrev ca (B : Nat) (x y : Int) : Array Value := #[.int .i64 x, .int .i64 y, .pointer (some ⟨B, 0, none⟩)]
abbrev cg : Nat := 73
/-- What is asked of it. -/
def Cmps (w0 : World) (ps : List Piece) (B : Nat) (ok : Int → Prop) (key : Int → Int) : Prop :=
  ∀ (wz : World) (row : Piece), Own w0 wz (row :: ps) → ∀ x y, ok x → ok y → Calls Try.prog cg (ca B x y) wz (Ret fun v w' => v = .int .i64 (cmpI (key x) (key y)) ∧ Own wz w' [])
section
variable {w0 w : World} {ps : List Piece} {ok : Int → Prop} {key : Int → Int} {B : Nat}
set_option maxRecDepth 100000 in
set_option maxHeartbeats 3200000 in
theorem insert_any {g c N : Nat} {p s q : List Int} {a b : Nat} (hcmp : Cmps w0 ps B ok key) (hok : ∀ x ∈ s, ok x) (ha : a = p.length) (hb : b = a + s.length) (hN : N = (p ++ s ++ q).length) (hNb : N ≤ 1000000)
    (H : Own w0 w (slc 3 1 (.slice (some ⟨g, 0, none⟩) N c) N (rows ie (p ++ s ++ q)) :: ps)) :
    Calls Try.prog 85 #[.slice (some ⟨g, 0, none⟩) N c, .int .i64 a, .int .i64 b, cf B] w (Ret fun _ w' => ∃ s', Srt key s' ∧ StEq key s s' ∧ Own w0 w' (slc 3 1 (.slice (some ⟨g, 0, none⟩) N c) N (rows ie (p ++ s' ++ q)) :: ps)) := by
  have hbN : b ≤ N := by rw [hN]; simp only [List.length_append]; omega
  have hNc : N ≤ c := by obtain ⟨_, _, e, h1, _⟩ := H.rd.shape; cases e; exact h1
  have hc2 : c ≤ 9223372036854775807 := by obtain ⟨_, _, e, _, h1⟩ := H.rd.shape; cases e; exact h1
  have HP := Lib.hid ha
  have HB := Lib.hid hb
  have HN := Lib.hid hN
  have HC := Lib.hid hcmp
  have HOK := Lib.hid hok
  have hab : a ≤ b := by omega
  clear ha hb hN hcmp hok
  go_enter Try.func85, Try.ntmps85
  by_cases hs0 : s.length = 0
  · have hs : s = [] := List.eq_nil_of_length_eq_zero hs0
    have hba : Hid (b = a) := Lib.hid (by rw [HB.out, hs0]; rfl)
    have hlt : ¬ ((a : Int) + 1 < (b : Int)) := by rw [hba.out]; omega
    subst hs
    clear hs0
    go_wp2_with fail
    go_loop [8] (fun s8 => s8 = .int .i64 ((a : Int) + 1)) (fun _ => 0)
    case atStart => go_num
    case round =>
      obtain rfl := hrel
      go_wp2
      go_end0
      exact ⟨_, rfl, [], List.Pairwise.nil, StEq.refl _, by simpa using H⟩
  · have hs1 : a + 1 ≤ b := by have := HB.out; omega
    go_wp2_with fail
    go_loopw [8] (fun s8 wx => ∃ (i : Nat) (S1 S2 U : List Int), a + 1 ≤ i ∧ i ≤ b ∧ s8 = .int .i64 i ∧ Hid (s = S1 ++ S2) ∧ Hid (a + S1.length = i) ∧ Hid (Srt key U) ∧ Hid (StEq key S1 U) ∧ Own w0 wx (slc 3 1 (.slice (some ⟨g, 0, none⟩) N c) N (rows ie (p ++ U ++ S2 ++ q)) :: ps)) (fun s8 _ => b - (intOf s8).toNat)
    case atStart =>
      obtain ⟨x, s2, hs⟩ : ∃ x s2, s = x :: s2 := by
        cases s with
        | nil => simp at hs0
        | cons x s2 => exact ⟨x, s2, rfl⟩
      exact ⟨a + 1, [x], s2, [x], by omega, hs1, by go_num, Lib.hid (by rw [hs]; rfl), Lib.hid rfl, Lib.hid (List.pairwise_singleton ..), Lib.hid (StEq.refl _), by rw [hs] at H; simpa using H⟩
    case round =>
      clear H hs0
      obtain ⟨i, S1, S2, U, hi1, hi2, rfl, hs, hl, hU, hSU, H⟩ := hrel
      by_cases hib : i < b
      · obtain ⟨x, S3, hS2⟩ : ∃ x S3, S2 = x :: S3 := by
          cases S2 with
          | nil => exfalso; have h1 := HB.out; have h2 := hl.out; rw [hs.out] at h1; simp at h1; omega
          | cons x S3 => exact ⟨x, S3, rfl⟩
        subst hS2
        have hokx : ok x := HOK.out x (by rw [hs.out]; simp)
        have hokU : Hid (∀ u ∈ U, ok u) := Lib.hid fun u hu => HOK.out u (by rw [hs.out]; exact List.mem_append.2 (.inl (hSU.out.symm.mem hu)))
        have hUl : Hid (a + U.length = i) := Lib.hid (by rw [← hSU.out.length]; exact hl.out)
        have hibI : (i : Int) < (b : Int) := by omega
        go_upto_block 1 with (fail)
        go_cut [] (fun wx => ∃ U', Hid (Srt key U') ∧ Hid (StEq key (S1 ++ [x]) U') ∧ Own w0 wx (slc 3 1 (.slice (some ⟨g, 0, none⟩) N c) N (rows ie (p ++ U' ++ S3 ++ q)) :: ps))
        case first =>
          go_wp2_with fail
          go_loopw [9] (fun s9 wx => ∃ (j : Nat) (U1 U2 : List Int), a ≤ j ∧ j ≤ i ∧ s9 = .int .i64 j ∧ Hid (U = U1 ++ U2) ∧ Hid (a + U1.length = j) ∧ Hid (∀ u ∈ U2, key x < key u) ∧ Own w0 wx (slc 3 1 (.slice (some ⟨g, 0, none⟩) N c) N (rows ie (p ++ U1 ++ x :: (U2 ++ S3 ++ q))) :: ps)) (fun s9 _ => (intOf s9).toNat)
          case atStart => exact ⟨i, U, [], by omega, by omega, rfl, Lib.hid (by simp), hUl, Lib.hid (by simp), by simpa using H⟩
          case round =>
            clear H
            obtain ⟨j, U1, U2, hj1, hj2, rfl, hU12, hU1, hgt, H⟩ := hrel
            have hfin : ∀ wz, (∀ u ∈ U1, key u ≤ key x) → Own w0 wz (slc 3 1 (.slice (some ⟨g, 0, none⟩) N c) N (rows ie (p ++ U1 ++ x :: (U2 ++ S3 ++ q))) :: ps) → ∃ U', Hid (Srt key U') ∧ Hid (StEq key (S1 ++ [x]) U') ∧ Own w0 wz (slc 3 1 (.slice (some ⟨g, 0, none⟩) N c) N (rows ie (p ++ U' ++ S3 ++ q)) :: ps) := by
              intro wz hle h
              have hs' : Srt key (U1 ++ U2) := by rw [← hU12.out]; exact hU.out
              have hm := Mrg.one_right (y := x) hs' hle hgt.out
              refine ⟨U1 ++ x :: U2, Lib.hid hm.1, Lib.hid (StEq.trans ((hSU.out.app (StEq.refl [x]))) (by rw [hU12.out]; exact hm.2)), ?_⟩
              simpa using h
            have HFIN := Lib.hid hfin
            clear hfin
            by_cases hja : a < j
            · obtain ⟨U3, u, hU3⟩ := last_split U1 (by have := hU1.out; omega)
              subst hU3
              have hjl : j = (p ++ U3).length + 1 := by
                have h1 := hU1.out
                have h2 := HP.out
                rw [List.length_append, List.length_singleton] at h1
                rw [List.length_append]
                omega
              have el1 : p ++ (U3 ++ [u]) ++ x :: (U2 ++ S3 ++ q) = (p ++ U3) ++ u :: ([] ++ x :: (U2 ++ S3 ++ q)) := by simp
              rw [el1] at H HFIN
              have hg1 : ((p ++ U3) ++ u :: ([] ++ x :: (U2 ++ S3 ++ q)))[j - 1]? = some u := get_mid _ _ _ (by omega)
              have hg2 : ((p ++ U3) ++ u :: ([] ++ x :: (U2 ++ S3 ++ q)))[j]? = some x := by
                have : (p ++ U3) ++ u :: ([] ++ x :: (U2 ++ S3 ++ q)) = ((p ++ U3) ++ [u]) ++ x :: (U2 ++ S3 ++ q) := by simp
                rw [this]
                exact get_mid _ _ _ (by simp only [List.length_append, List.length_cons, List.length_nil] at hjl ⊢; omega)
              have hLn : ((p ++ U3) ++ u :: ([] ++ x :: (U2 ++ S3 ++ q))).length = N := by
                have h1 := HN.out
                have h2 := hUl.out
                have h3 := hU12.out
                have h4 := hl.out
                rw [hs.out] at h1
                rw [h3] at h2
                simp only [List.length_append, List.length_cons, List.length_nil] at h1 h2 ⊢
                omega
              obtain ⟨j', rfl⟩ : ∃ j', j = j' + 1 := ⟨j - 1, by omega⟩
              have hsw := set_swap (p ++ U3) [] (U2 ++ S3 ++ q) u x (i := j') (j := j' + 1) (by omega) (by simp only [List.length_nil]; omega)
              rw [Nat.add_sub_cancel] at hg1
              obtain ⟨L, hL⟩ : ∃ L, Hid ((p ++ U3) ++ u :: ([] ++ x :: (U2 ++ S3 ++ q)) = L) := ⟨_, Lib.hid rfl⟩
              rw [hL.out] at H hg1 hg2 hsw hLn HFIN
              have HG1 := Lib.hid hg1
              have HG2 := Lib.hid hg2
              have e1 : (rows ie L).take ((j' + 1) * 1) ++ ie u ++ (rows ie L).drop ((j' + 1) * 1 + 1) = rows ie (L.set (j' + 1) u) := set_rows (by rw [hLn]; omega) u
              have e2 : (rows ie (L.set (j' + 1) u)).take (j' * 1) ++ ie x ++ (rows ie (L.set (j' + 1) u)).drop (j' * 1 + 1) = rows ie (p ++ U3 ++ x :: ((u :: U2) ++ S3 ++ q)) := by
                rw [set_rows (by rw [List.length_set, hLn]; omega) x, List.set_comm _ _ (by omega), hsw]
                simp
              have E1 := Lib.hid e1
              have E2 := Lib.hid e2
              have hU3l : Hid (a + U3.length = j') := Lib.hid (by have := HP.out; simp only [List.length_append] at hjl; omega)
              have hoku : ok u := hokU.out u (by rw [hU12.out]; simp)
              have hcall := fun (wz : World) (h : Own w0 wz (slc 3 1 (.slice (some ⟨g, 0, none⟩) N c) N (rows ie L) :: ps)) => HC.out wz _ h x u hokx hoku
              have hcl := cmpI_lt (key x) (key u)
              obtain ⟨cv, hcv⟩ : ∃ cv, Hid (cmpI (key x) (key u) = cv) := ⟨_, rfl⟩
              simp only [hcv.out] at hcall hcl
              have HCALL := Lib.hid hcall
              have hj1' : a ≤ j' := by omega
              have hjaI : (a : Int) < (j' : Int) + 1 := by omega
              have hjN : (j' : Int) + 1 < (N : Int) := by omega
              have hjT : ((j' : Int) + 1).toNat = j' + 1 := by omega
              have hjw : IntKind.i64.wrap (j' : Int) = (j' : Int) := IntWalk.i64_in _ ⟨by omega, by omega⟩
              have hjN0 : (j' : Int) < (N : Int) := by omega
              have hj0 : (0 : Int) ≤ (j' : Int) := by omega
              have hjs : ((j' : Int) + 1 - 1) = (j' : Int) := by omega
              clear hg1 hg2 hsw hLn e1 e2 el1 hjl hL hcall hja hU1 hj1
              go_upto_region 4 with (fail)
              refine wp_region_calm (fun w1 => Own w0 w1 (slc 3 1 (.slice (some ⟨g, 0, none⟩) N c) N (rows ie L) :: ps)) 16 (by kernel_rfl) (by kernel_rfl) H.drew ?_
              simp only [List.take_succ_cons, List.take_zero, List.drop_succ_cons, List.drop_zero]
              repeat
                first
                | (refine calm_value (v := ?_) (by decide) rfl (fun σ w1 hS => ?_) ?_
                   rotate_left
                   · obtain ⟨c1, c1'⟩ := el hS.rd HG1.out; obtain ⟨c2, c2'⟩ := el hS.rd HG2.out
                     first | (go_simp; rfl) | rfl
                   simp only [Act.put, List.setIfInBounds_toArray, List.set_cons_zero, List.set_cons_succ])
                | (refine calm_skip (by decide) rfl ?_
                   simp only [Act.put, List.setIfInBounds_toArray, List.set_cons_zero, List.set_cons_succ])
              refine calm_call (v := .int .i64 cv) (by decide) rfl (fun w1 => (by go_simp; first | exact ⟨rfl, rfl⟩ | rfl)) (fun σ w1 hS => ?_) ?_
              · refine (HCALL.out w1 hS).mono ?_
                rintro e w2 ⟨_, rfl, rfl, h2⟩
                exact ⟨rfl, hS.join h2⟩
              simp only [Act.put, List.setIfInBounds_toArray, List.set_cons_zero, List.set_cons_succ]
              repeat
                first
                | (refine calm_value (v := ?_) (by decide) rfl (fun σ w1 hS => ?_) ?_
                   rotate_left
                   · skip
                     first | (go_simp; rfl) | rfl
                   simp only [Act.put, List.setIfInBounds_toArray, List.set_cons_zero, List.set_cons_succ])
                | (refine calm_skip (by decide) rfl ?_
                   simp only [Act.put, List.setIfInBounds_toArray, List.set_cons_zero, List.set_cons_succ])
              refine calm_nil ?_
              intro wd HD
              clear H
              by_cases hxu : key x < key u
              · have hxu2 : decide (key x < key u) = true := by simp [hxu]
                have hgt2 : Hid (∀ v ∈ u :: U2, key x < key v) := Lib.hid fun v hv => by
                  rcases List.mem_cons.1 hv with rfl | hv
                  · exact hxu
                  · exact hgt.out v hv
                have hU' : Hid (U = U3 ++ (u :: U2)) := Lib.hid (by rw [hU12.out]; simp)
                rw [hxu2]
                clear hxu hxu2 HFIN hcl
                go_upto_region 6 with (fail)
                refine wp_region_pres (fun _ w1 => Own w0 w1 (slc 3 1 (.slice (some ⟨g, 0, none⟩) N c) N (rows ie L) :: ps)) 14 [] [2, 3, 4] (by kernel_rfl) (by kernel_rfl) (by kernel_rfl) (by kernel_rfl) (fun _ _ d _ _ h => by cases d <;> exact h) ⟨_, _, rfl, fun w => (by first | rfl | (go_simp; rfl)), _, _, rfl, fun w => (by first | rfl | (go_simp; rfl)), _, _, rfl, fun w => (by first | rfl | (go_simp; rfl)), rfl⟩ HD.drew ?_
                simp only [List.take_succ_cons, List.take_zero, List.drop_succ_cons, List.drop_zero]
                repeat
                  first
                  | (refine calm_value (v := ?_) (by decide) rfl (fun σ w1 hS => ?_) ?_
                     rotate_left
                     · obtain ⟨c1, c1'⟩ := el hS.rd HG1.out; obtain ⟨c2, c2'⟩ := el hS.rd HG2.out
                       first | (go_simp; rfl) | rfl
                     simp only [Act.put, List.setIfInBounds_toArray, List.set_cons_zero, List.set_cons_succ])
                  | (refine calm_skip (by decide) rfl ?_
                     simp only [Act.put, List.setIfInBounds_toArray, List.set_cons_zero, List.set_cons_succ])
                refine calm_nil ?_
                intro σ2 wd2 _ H2
                simp only [putNew, List.foldl_nil]
                clear HD
                go_wp2_with (first
                  | (refine wpList_store_elem rfl _ _ rfl (i := j' + 1) (by first | rfl | (rw [Nat.mul_one]; rfl)) H2 (ie u) rfl (by kernel_rfl) rfl (by omega) (e_one u) ?_; clear H2; intro w5 H; rw [E1.out] at H)
                  | (refine wpList_store_elem rfl _ _ rfl (i := j') (by first | rfl | (rw [Nat.mul_one]; rfl)) H (ie x) rfl (by kernel_rfl) rfl (by omega) (e_one x) ?_; clear H; intro w6 H; rw [E2.out] at H))
                go_roundw
                case rel => exact ⟨j', U3, u :: U2, hj1', by omega, by go_num, hU', hU3l, hgt2, H⟩
                case measure => simp [intOf]
              · have hxu2 : decide (key x < key u) = false := by simp [hxu]
                rw [hxu2]
                have hle : Hid (∀ v ∈ U3 ++ [u], key v ≤ key x) := Lib.hid fun v hv => by
                  have hs' : Srt key ((U3 ++ [u]) ++ U2) := by rw [← hU12.out]; exact hU.out
                  rcases List.mem_append.1 hv with hv | hv
                  · have := (hs'.left).across v hv u (by simp); omega
                  · simp at hv; subst hv; omega
                clear hxu hxu2 hcl
                go_wp2
                go_meet
                exact HFIN.out _ hle.out HD
            · have hja2 : j = a := by omega
              have hU10 : U1 = [] := by have := hU1.out; exact List.eq_nil_of_length_eq_zero (by omega)
              subst hja2
              clear hja
              go_upto_region 4 with (fail)
              refine wp_region_calm (fun w1 => Own w0 w1 (slc 3 1 (.slice (some ⟨g, 0, none⟩) N c) N (rows ie (p ++ U1 ++ x :: (U2 ++ S3 ++ q))) :: ps)) 16 (by kernel_rfl) (by kernel_rfl) H.drew ?_
              simp only [List.take_succ_cons, List.take_zero, List.drop_succ_cons, List.drop_zero]
              repeat
                first
                | (refine calm_value (v := ?_) (by decide) rfl (fun σ w1 hS => ?_) ?_
                   rotate_left
                   · skip
                     first | (go_simp; rfl) | rfl
                   simp only [Act.put, List.setIfInBounds_toArray, List.set_cons_zero, List.set_cons_succ])
                | (refine calm_skip (by decide) rfl ?_
                   simp only [Act.put, List.setIfInBounds_toArray, List.set_cons_zero, List.set_cons_succ])
              refine calm_nil ?_
              intro wd HD
              clear H
              go_wp2
              go_meet
              exact HFIN.out _ (by rw [hU10]; simp) HD
        case rest =>
          clear H
          obtain ⟨U', hs', he', H⟩ := hcut
          go_wp2
          go_roundw
          case rel => exact ⟨i + 1, S1 ++ [x], S3, U', by omega, by omega, by go_num, Lib.hid (by rw [hs.out]; simp), Lib.hid (by rw [List.length_append, ← Nat.add_assoc, hl.out]; rfl), hs', he', H⟩
          case measure => simp [intOf]; omega
      · have hib2 : i = b := by omega
        subst hib2
        have hS20 : S2 = [] := by
          have h1 := HB.out; have h2 := hl.out
          rw [hs.out, List.length_append] at h1
          exact List.eq_nil_of_length_eq_zero (by omega)
        have hs1' : s = S1 := by rw [hs.out, hS20, List.append_nil]
        rw [hS20, List.append_nil] at H
        have HE := Lib.hid hs1'
        clear hS20 hs1'
        go_wp2
        go_end0
        exact ⟨_, rfl, U, hU.out, by rw [HE.out]; exact hSU.out, H⟩
end
end SI
end Go.Proofs.Ytljejkdkjnbmhaa
/- The stable sort of slices of ints: the walk of symMerge, where one part is of one. (Written by tools/srt.py.) -/
namespace Go.Proofs.Ytljejkdkjnbmhaa
open Go.RowKit
namespace SI
section
variable {w0 w : World} {ps : List Piece} {ok : Int → Prop} {key : Int → Int} {B : Nat}
set_option maxRecDepth 100000 in
set_option maxHeartbeats 6400000 in
theorem symL_any {g c N : Nat} {p y q : List Int} {u : Int} {a m b : Nat} (hcmp : Cmps w0 ps B ok key) (hoku : ok u) (hoky : ∀ v ∈ y, ok v) (hy : Srt key y) (ha : a = p.length) (hm : m = a + 1) (hb : b = m + y.length) (hN : N = (p ++ [u] ++ y ++ q).length) (hNb : N ≤ 1000000)
    (H : Own w0 w (slc 3 1 (.slice (some ⟨g, 0, none⟩) N c) N (rows ie (p ++ [u] ++ y ++ q)) :: ps)) :
    Calls Try.prog 86 #[.slice (some ⟨g, 0, none⟩) N c, .int .i64 a, .int .i64 m, .int .i64 b, cf B] w (Ret fun _ w' => ∃ z, Mrg key [u] y z ∧ Own w0 w' (slc 3 1 (.slice (some ⟨g, 0, none⟩) N c) N (rows ie (p ++ z ++ q)) :: ps)) := by
  have hbN : b ≤ N := by rw [hN]; simp only [List.length_append, List.length_singleton]; omega
  have hNc : N ≤ c := by obtain ⟨_, _, e, h1, _⟩ := H.rd.shape; cases e; exact h1
  have hc2 : c ≤ 9223372036854775807 := by obtain ⟨_, _, e, _, h1⟩ := H.rd.shape; cases e; exact h1
  have hgu : (p ++ [u] ++ y ++ q)[a]? = some u := by
    have : p ++ [u] ++ y ++ q = p ++ u :: (y ++ q) := by simp
    rw [this]; exact get_mid _ _ _ ha
  have hgy : ∀ t v, y[t]? = some v → (p ++ [u] ++ y ++ q)[m + t]? = some v := by
    intro t v hv
    have : p ++ [u] ++ y ++ q = (p ++ [u]) ++ (y ++ q) := by simp
    rw [this, List.getElem?_append_right (by simp only [List.length_append, List.length_singleton]; omega), List.getElem?_append_left (by have := (List.getElem?_eq_some_iff.1 hv).1; simp only [List.length_append, List.length_singleton]; omega)]
    simp only [List.length_append, List.length_singleton]
    rw [show m + t - (p.length + 1) = t by omega]
    exact hv
  have HGU := Lib.hid hgu
  have HGY := Lib.hid hgy
  have HP := Lib.hid ha
  have HB := Lib.hid hb
  have HN := Lib.hid hN
  have HC := Lib.hid hcmp
  have HOK := Lib.hid hoky
  have HS := Lib.hid hy
  obtain ⟨L, hL⟩ : ∃ L, Hid (p ++ [u] ++ y ++ q = L) := ⟨_, Lib.hid rfl⟩
  rw [hL.out] at H HGU HGY
  have hmb : m ≤ b := by omega
  have hma : ((m : Int) - (a : Int)) = 1 := by omega
  have ham : a < m := by omega
  have haN : (a : Int) < (N : Int) := by omega
  have HM := Lib.hid hm
  clear ha hb hN hcmp hoky hy hgu hgy hm
  go_enter Try.func86, Try.ntmps86
  go_wp2_with fail
  go_loopw [10, 11] (fun s10 s11 wx => ∃ (i j : Nat), s10 = .int .i64 i ∧ s11 = .int .i64 j ∧ m ≤ i ∧ i ≤ j ∧ j ≤ b ∧ Hid (∀ (t : Nat) (v : Int), m + t < i → y[t]? = some v → key v < key u) ∧ Hid (∀ (t : Nat) (v : Int), j ≤ m + t → y[t]? = some v → key u ≤ key v) ∧ Own w0 wx (slc 3 1 (.slice (some ⟨g, 0, none⟩) N c) N (rows ie L) :: ps)) (fun s10 s11 _ => (intOf s11).toNat - (intOf s10).toNat)
  case atStart => exact ⟨m, b, rfl, rfl, by omega, by omega, by omega, Lib.hid (fun t v h => by omega), Lib.hid (fun t v h hv => by have := (List.getElem?_eq_some_iff.1 hv).1; have := HB.out; omega), H⟩
  case round =>
    clear H
    obtain ⟨i, j, rfl, rfl, hmi, hij, hjb, hlo, hhi, H⟩ := hrel
    by_cases hlt : i < j
    · obtain ⟨h, hh⟩ : ∃ h, Hid ((i + j) / 2 = h) := ⟨_, rfl⟩
      have hih : i ≤ h := by rw [← hh.out]; omega
      have hhj : h < j := by rw [← hh.out]; omega
      have hsI : (((i : Int) + (j : Int)) / 2) = (h : Int) := by have := hh.out; omega
      have hsU : IntKind.u64.wrap ((i : Int) + (j : Int)) = (i : Int) + (j : Int) := by simp [IntKind.wrap, IntKind.bits, IntKind.signed]; omega
      obtain ⟨t, ht⟩ : ∃ t, h = m + t := ⟨h - m, by omega⟩
      obtain ⟨v, hv⟩ := get_of_lt (l := y) (k := t) (by have := HB.out; omega)
      have hg := HGY.out t v hv
      rw [← ht] at hg
      have HG := Lib.hid hg
      have hokv : ok v := HOK.out v (List.mem_of_getElem? hv)
      have hcall := fun (wz : World) (h : Own w0 wz (slc 3 1 (.slice (some ⟨g, 0, none⟩) N c) N (rows ie L) :: ps)) => HC.out wz _ h v u hokv hoku
      have hcl := cmpI_lt (key v) (key u)
      obtain ⟨cv, hcv⟩ : ∃ cv, Hid (cmpI (key v) (key u) = cv) := ⟨_, rfl⟩
      simp only [hcv.out] at hcall hcl
      have HCALL := Lib.hid hcall
      have hhN : (h : Int) < (N : Int) := by omega
      have hlo2 : key v < key u → Hid (∀ (t' : Nat) (v' : Int), m + t' < h + 1 → y[t']? = some v' → key v' < key u) := fun hk => Lib.hid fun t' v' ht' hv' => by
        by_cases e : t' = t
        · subst e; rw [hv] at hv'; cases hv'; exact hk
        · have h1 := List.pairwise_iff_getElem.1 HS.out t' t (List.getElem?_eq_some_iff.1 hv').1 (List.getElem?_eq_some_iff.1 hv).1 (by omega)
          rw [(List.getElem?_eq_some_iff.1 hv').2, (List.getElem?_eq_some_iff.1 hv).2] at h1
          omega
      have hhi2 : ¬ key v < key u → Hid (∀ (t' : Nat) (v' : Int), h ≤ m + t' → y[t']? = some v' → key u ≤ key v') := fun hk => Lib.hid fun t' v' ht' hv' => by
        by_cases e : t' = t
        · subst e; rw [hv] at hv'; cases hv'; omega
        · have h1 := List.pairwise_iff_getElem.1 HS.out t t' (List.getElem?_eq_some_iff.1 hv).1 (List.getElem?_eq_some_iff.1 hv').1 (by omega)
          rw [(List.getElem?_eq_some_iff.1 hv').2, (List.getElem?_eq_some_iff.1 hv).2] at h1
          omega
      have HLO2 := Lib.hid hlo2
      have HHI2 := Lib.hid hhi2
      clear hlo2 hhi2 hg hv ht hcall
      go_upto_region 5 with (fail)
      refine wp_region_calm (fun w1 => Own w0 w1 (slc 3 1 (.slice (some ⟨g, 0, none⟩) N c) N (rows ie L) :: ps)) 10 (by kernel_rfl) (by kernel_rfl) H.drew ?_
      simp only [List.take_succ_cons, List.take_zero, List.drop_succ_cons, List.drop_zero]
      repeat
        first
        | (refine calm_value (v := ?_) (by decide) rfl (fun σ w1 hS => ?_) ?_
           rotate_left
           · obtain ⟨c1, c1'⟩ := el hS.rd HG.out; obtain ⟨c2, c2'⟩ := el hS.rd HGU.out
             first | (go_simp; rfl) | rfl
           simp only [Act.put, List.setIfInBounds_toArray, List.set_cons_zero, List.set_cons_succ])
        | (refine calm_skip (by decide) rfl ?_
           simp only [Act.put, List.setIfInBounds_toArray, List.set_cons_zero, List.set_cons_succ])
      refine calm_call (v := .int .i64 cv) (by decide) rfl (fun w1 => (by go_simp; first | exact ⟨rfl, rfl⟩ | rfl)) (fun σ w1 hS => ?_) ?_
      · refine (HCALL.out w1 hS).mono ?_
        rintro e w2 ⟨_, rfl, rfl, h2⟩
        exact ⟨rfl, hS.join h2⟩
      simp only [Act.put, List.setIfInBounds_toArray, List.set_cons_zero, List.set_cons_succ]
      refine calm_nil ?_
      intro wd HD
      clear H
      by_cases hk : key v < key u
      · have hk2 : decide (cv < 0) = true := by rw [hcl]; simp [hk]
        have hn := HLO2.out hk
        clear hk hcl HHI2
        go_wp2
        go_roundw
        case rel => exact ⟨h + 1, j, by go_num, rfl, by omega, by omega, by omega, hn, hhi, HD⟩
        case measure => simp [intOf]; omega
      · have hk2 : decide (cv < 0) = false := by rw [hcl]; simp [hk]
        have hn := HHI2.out hk
        clear hk hcl HLO2
        go_wp2
        go_roundw
        case rel => exact ⟨i, h, rfl, by go_num, by omega, by omega, by omega, hlo, hn, HD⟩
        case measure => simp [intOf]; omega
    · have hij2 : i = j := by omega
      subst hij2
      obtain ⟨y1, y2, hys, hy1⟩ := split_at y (i - m) (by have := HB.out; omega)
      have hlt1 : ∀ v ∈ y1, key v < key u := fun v hv => by
        obtain ⟨t, ht, rfl⟩ := List.getElem_of_mem hv
        refine hlo.out t _ (by omega) ?_
        rw [hys, List.getElem?_append_left ht, List.getElem?_eq_getElem ht]
      have hge2 : ∀ v ∈ y2, key u ≤ key v := fun v hv => by
        obtain ⟨t, ht, rfl⟩ := List.getElem_of_mem hv
        refine hhi.out (y1.length + t) _ (by omega) ?_
        rw [hys, List.getElem?_append_right (by omega), Nat.add_sub_cancel_left, List.getElem?_eq_getElem ht]
      have hmrg : Mrg key [u] y (y1 ++ u :: y2) := by
        have := Mrg.one_left (key := key) (x := u) (y1 := y1) (y2 := y2) (by rw [← hys]; exact HS.out) hlt1 hge2
        rwa [← hys] at this
      have HMRG := Lib.hid hmrg
      have HY1 := Lib.hid hy1
      have hLe : Hid (L = p ++ u :: (y1 ++ y2 ++ q)) := Lib.hid (by rw [← hL.out, hys]; simp)
      have hiw : IntKind.i64.wrap ((i : Int) - 1) = (i : Int) - 1 := IntWalk.i64_in _ ⟨by omega, by omega⟩
      have hHL : Hid (L.length = N) := Lib.hid (by rw [← hL.out, ← HN.out])
      clear hlo hhi hys hlt1 hge2 hmrg hy1 hlt
      rw [hLe.out] at H
      go_wp2_with fail
      go_loopw [13] (fun s13 wx => ∃ (k : Nat) (Y1 Y2 : List Int), s13 = .int .i64 k ∧ a ≤ k ∧ k + 1 ≤ i ∧ Hid (y1 = Y1 ++ Y2) ∧ Hid (a + Y1.length = k) ∧ Own w0 wx (slc 3 1 (.slice (some ⟨g, 0, none⟩) N c) N (rows ie (p ++ Y1 ++ u :: (Y2 ++ (y2 ++ q)))) :: ps)) (fun s13 _ => i - (intOf s13).toNat)
      case atStart => exact ⟨a, [], y1, rfl, by omega, by omega, Lib.hid rfl, Lib.hid rfl, by simpa using H⟩
      case round =>
        clear H
        obtain ⟨k, Y1, Y2, rfl, hk1, hk2, hy1, hYl, H⟩ := hrel
        by_cases hki : k + 1 < i
        · obtain ⟨v, Y3, hY2⟩ : ∃ v Y3, Y2 = v :: Y3 := by
            cases Y2 with
            | nil => exfalso; have h1 := HY1.out; have h2 := hYl.out; rw [hy1.out] at h1; simp at h1; have := HM.out; omega
            | cons v Y3 => exact ⟨v, Y3, rfl⟩
          subst hY2
          have el1 : p ++ Y1 ++ u :: (v :: Y3 ++ (y2 ++ q)) = (p ++ Y1) ++ u :: ([] ++ v :: (Y3 ++ (y2 ++ q))) := by simp
          rw [el1] at H
          have hkl : k = (p ++ Y1).length := by rw [List.length_append, ← HP.out]; exact hYl.out.symm
          have hLn : ((p ++ Y1) ++ u :: ([] ++ v :: (Y3 ++ (y2 ++ q)))).length = N := by
            rw [← hHL.out, hLe.out, hy1.out]
            simp only [List.length_append, List.length_cons, List.length_nil]
            omega
          have hg1 : ((p ++ Y1) ++ u :: ([] ++ v :: (Y3 ++ (y2 ++ q))))[k]? = some u := get_mid _ _ _ hkl
          have hg2 : ((p ++ Y1) ++ u :: ([] ++ v :: (Y3 ++ (y2 ++ q))))[k + 1]? = some v := by
            have : (p ++ Y1) ++ u :: ([] ++ v :: (Y3 ++ (y2 ++ q))) = ((p ++ Y1) ++ [u]) ++ v :: (Y3 ++ (y2 ++ q)) := by simp
            rw [this]
            exact get_mid _ _ _ (by rw [List.length_append, List.length_singleton, ← hkl])
          have hsw := set_swap (p ++ Y1) [] (Y3 ++ (y2 ++ q)) u v (i := k) (j := k + 1) hkl (by simp only [List.length_nil]; omega)
          obtain ⟨M, hM⟩ : ∃ M, Hid ((p ++ Y1) ++ u :: ([] ++ v :: (Y3 ++ (y2 ++ q))) = M) := ⟨_, Lib.hid rfl⟩
          rw [hM.out] at H hg1 hg2 hsw hLn
          have HG1 := Lib.hid hg1
          have HG2 := Lib.hid hg2
          have e1 : (rows ie M).take (k * 1) ++ ie v ++ (rows ie M).drop (k * 1 + 1) = rows ie (M.set k v) := set_rows (by rw [hLn]; omega) v
          have e2 : (rows ie (M.set k v)).take ((k + 1) * 1) ++ ie u ++ (rows ie (M.set k v)).drop ((k + 1) * 1 + 1) = rows ie (p ++ (Y1 ++ [v]) ++ u :: (Y3 ++ (y2 ++ q))) := by
            rw [set_rows (by rw [List.length_set, hLn]; omega) u, hsw]
            simp
          have E1 := Lib.hid e1
          have E2 := Lib.hid e2
          have hkiI : (k : Int) < (i : Int) - 1 := by omega
          have hkN : (k : Int) < (N : Int) := by omega
          have hkN1 : (k : Int) + 1 < (N : Int) := by omega
          have hkT : ((k : Int) + 1).toNat = k + 1 := by omega
          have hkw : IntKind.i64.wrap ((k : Int) + 1) = (k : Int) + 1 := IntWalk.i64_in _ ⟨by omega, by omega⟩
          have hY' : Hid (y1 = (Y1 ++ [v]) ++ Y3) := Lib.hid (by rw [hy1.out]; simp)
          have hYl' : Hid (a + (Y1 ++ [v]).length = k + 1) := Lib.hid (by rw [List.length_append, List.length_singleton]; have := hYl.out; omega)
          clear hg1 hg2 hsw hLn e1 e2 el1 hkl hM
          go_upto_region 11 with (fail)
          refine wp_region_pres (fun _ w1 => Own w0 w1 (slc 3 1 (.slice (some ⟨g, 0, none⟩) N c) N (rows ie M) :: ps)) 14 [] [2, 3, 4] (by kernel_rfl) (by kernel_rfl) (by kernel_rfl) (by kernel_rfl) (fun _ _ d _ _ h => by cases d <;> exact h) ⟨_, _, rfl, fun w => (by first | rfl | (go_simp; rfl)), _, _, rfl, fun w => (by first | rfl | (go_simp; rfl)), _, _, rfl, fun w => (by first | rfl | (go_simp; rfl)), rfl⟩ H.drew ?_
          simp only [List.take_succ_cons, List.take_zero, List.drop_succ_cons, List.drop_zero]
          repeat
            first
            | (refine calm_value (v := ?_) (by decide) rfl (fun σ w1 hS => ?_) ?_
               rotate_left
               · obtain ⟨c1, c1'⟩ := el hS.rd HG1.out; obtain ⟨c2, c2'⟩ := el hS.rd HG2.out
                 first | (go_simp; rfl) | rfl
               simp only [Act.put, List.setIfInBounds_toArray, List.set_cons_zero, List.set_cons_succ])
            | (refine calm_skip (by decide) rfl ?_
               simp only [Act.put, List.setIfInBounds_toArray, List.set_cons_zero, List.set_cons_succ])
          refine calm_nil ?_
          intro σ2 wd2 _ H2
          simp only [putNew, List.foldl_nil]
          clear H
          go_wp2_with (first
            | (refine wpList_store_elem rfl _ _ rfl (i := k) (by first | rfl | (rw [Nat.mul_one]; rfl)) H2 (ie v) rfl (by kernel_rfl) rfl (by omega) (e_one v) ?_; clear H2; intro w5 H; rw [E1.out] at H)
            | (refine wpList_store_elem rfl _ _ rfl (i := k + 1) (by first | rfl | (rw [Nat.mul_one]; rfl)) H (ie u) rfl (by kernel_rfl) rfl (by omega) (e_one u) ?_; clear H; intro w6 H; rw [E2.out] at H))
          go_roundw
          case rel => exact ⟨k + 1, Y1 ++ [v], Y3, by go_num, by omega, by omega, hY', hYl', H⟩
          case measure => simp [intOf]; omega
        · have hY20 : Y2 = [] := by
            have h1 := HY1.out; have h2 := hYl.out
            rw [hy1.out, List.length_append] at h1
            have := HM.out
            exact List.eq_nil_of_length_eq_zero (by omega)
          have hnk : ¬ ((k : Int) < (i : Int) - 1) := by omega
          have e1 : Hid (y1 = Y1) := Lib.hid (by rw [hy1.out, hY20, List.append_nil])
          have el2 : p ++ Y1 ++ u :: (Y2 ++ (y2 ++ q)) = p ++ (y1 ++ u :: y2) ++ q := by rw [hY20, e1.out]; simp
          rw [el2] at H
          clear el2 hY20 hki
          go_wp2
          go_end0
          exact ⟨_, rfl, _, HMRG.out, by simpa using H⟩
end
end SI
end Go.Proofs.Ytljejkdkjnbmhaa
/- The stable sort of slices of ints: the walk of symMerge, where the second part is of one. (Written by tools/srt.py.) -/
namespace Go.Proofs.Ytljejkdkjnbmhaa
open Go.RowKit
namespace SI
section
variable {w0 w : World} {ps : List Piece} {ok : Int → Prop} {key : Int → Int} {B : Nat}
set_option maxRecDepth 100000 in
set_option maxHeartbeats 6400000 in
theorem symR_any {g c N : Nat} {p x q : List Int} {u : Int} {a m b : Nat} (hcmp : Cmps w0 ps B ok key) (hoku : ok u) (hokx : ∀ v ∈ x, ok v) (hx : Srt key x) (hx2 : 2 ≤ x.length) (ha : a = p.length) (hm : m = a + x.length) (hb : b = m + 1) (hN : N = (p ++ x ++ [u] ++ q).length) (hNb : N ≤ 1000000)
    (H : Own w0 w (slc 3 1 (.slice (some ⟨g, 0, none⟩) N c) N (rows ie (p ++ x ++ [u] ++ q)) :: ps)) :
    Calls Try.prog 86 #[.slice (some ⟨g, 0, none⟩) N c, .int .i64 a, .int .i64 m, .int .i64 b, cf B] w (Ret fun _ w' => ∃ z, Mrg key x [u] z ∧ Own w0 w' (slc 3 1 (.slice (some ⟨g, 0, none⟩) N c) N (rows ie (p ++ z ++ q)) :: ps)) := by
  have hbN : b ≤ N := by rw [hN]; simp only [List.length_append, List.length_singleton]; omega
  have hNc : N ≤ c := by obtain ⟨_, _, e, h1, _⟩ := H.rd.shape; cases e; exact h1
  have hc2 : c ≤ 9223372036854775807 := by obtain ⟨_, _, e, _, h1⟩ := H.rd.shape; cases e; exact h1
  have hgu : (p ++ x ++ [u] ++ q)[m]? = some u := by
    have : p ++ x ++ [u] ++ q = (p ++ x) ++ u :: q := by simp
    rw [this]; exact get_mid _ _ _ (by rw [List.length_append]; omega)
  have hgx : ∀ (t : Nat) v, x[t]? = some v → (p ++ x ++ [u] ++ q)[a + t]? = some v := by
    intro t v hv
    have : p ++ x ++ [u] ++ q = p ++ (x ++ (u :: q)) := by simp
    rw [this, List.getElem?_append_right (by omega), List.getElem?_append_left (by have := (List.getElem?_eq_some_iff.1 hv).1; omega)]
    rw [show a + t - p.length = t by omega]
    exact hv
  have HGU := Lib.hid hgu
  have HGX := Lib.hid hgx
  have HP := Lib.hid ha
  have HM := Lib.hid hm
  have HN := Lib.hid hN
  have HC := Lib.hid hcmp
  have HOK := Lib.hid hokx
  have HS := Lib.hid hx
  obtain ⟨L, hL⟩ : ∃ L, Hid (p ++ x ++ [u] ++ q = L) := ⟨_, Lib.hid rfl⟩
  rw [hL.out] at H HGU HGX
  have hmN : m < N := by omega
  have ham : a + 2 ≤ m := by omega
  have hma : (((m : Int) - (a : Int)) == 1) = false := by simp; omega
  have hbm : ((b : Int) - (m : Int)) = 1 := by omega
  have hbm2 : m ≤ b := by omega
  clear ha hb hN hcmp hokx hx hgu hgx hm hx2
  go_enter Try.func86, Try.ntmps86
  go_wp2_with fail
  go_loopw [14, 15] (fun s10 s11 wx => ∃ (i j : Nat), s10 = .int .i64 i ∧ s11 = .int .i64 j ∧ a ≤ i ∧ i ≤ j ∧ j ≤ m ∧ Hid (∀ (t : Nat) (v : Int), a + t < i → x[t]? = some v → key v ≤ key u) ∧ Hid (∀ (t : Nat) (v : Int), j ≤ a + t → x[t]? = some v → key u < key v) ∧ Own w0 wx (slc 3 1 (.slice (some ⟨g, 0, none⟩) N c) N (rows ie L) :: ps)) (fun s10 s11 _ => (intOf s11).toNat - (intOf s10).toNat)
  case atStart => exact ⟨a, m, rfl, rfl, by omega, by omega, by omega, Lib.hid (fun t v h => by omega), Lib.hid (fun t v h hv => by have := (List.getElem?_eq_some_iff.1 hv).1; have := HM.out; omega), H⟩
  case round =>
    clear H
    obtain ⟨i, j, rfl, rfl, hmi, hij, hjb, hlo, hhi, H⟩ := hrel
    by_cases hlt : i < j
    · obtain ⟨h, hh⟩ : ∃ h, Hid ((i + j) / 2 = h) := ⟨_, rfl⟩
      have hih : i ≤ h := by rw [← hh.out]; omega
      have hhj : h < j := by rw [← hh.out]; omega
      have hsI : (((i : Int) + (j : Int)) / 2) = (h : Int) := by have := hh.out; omega
      have hsU : IntKind.u64.wrap ((i : Int) + (j : Int)) = (i : Int) + (j : Int) := by simp [IntKind.wrap, IntKind.bits, IntKind.signed]; omega
      obtain ⟨t, ht⟩ : ∃ t, h = a + t := ⟨h - a, by omega⟩
      obtain ⟨v, hv⟩ := get_of_lt (l := x) (k := t) (by have := HM.out; omega)
      have hg := HGX.out t v hv
      rw [← ht] at hg
      have HG := Lib.hid hg
      have hokv : ok v := HOK.out v (List.mem_of_getElem? hv)
      have hcall := fun (wz : World) (h : Own w0 wz (slc 3 1 (.slice (some ⟨g, 0, none⟩) N c) N (rows ie L) :: ps)) => HC.out wz _ h u v hoku hokv
      have hcl := cmpI_lt (key u) (key v)
      obtain ⟨cv, hcv⟩ : ∃ cv, Hid (cmpI (key u) (key v) = cv) := ⟨_, rfl⟩
      simp only [hcv.out] at hcall hcl
      have HCALL := Lib.hid hcall
      have hhN : (h : Int) < (N : Int) := by omega
      have hlo2 : ¬ key u < key v → Hid (∀ (t' : Nat) (v' : Int), a + t' < h + 1 → x[t']? = some v' → key v' ≤ key u) := fun hk => Lib.hid fun t' v' ht' hv' => by
        by_cases e : t' = t
        · subst e; rw [hv] at hv'; cases hv'; omega
        · have h1 := List.pairwise_iff_getElem.1 HS.out t' t (List.getElem?_eq_some_iff.1 hv').1 (List.getElem?_eq_some_iff.1 hv).1 (by omega)
          rw [(List.getElem?_eq_some_iff.1 hv').2, (List.getElem?_eq_some_iff.1 hv).2] at h1
          omega
      have hhi2 : key u < key v → Hid (∀ (t' : Nat) (v' : Int), h ≤ a + t' → x[t']? = some v' → key u < key v') := fun hk => Lib.hid fun t' v' ht' hv' => by
        by_cases e : t' = t
        · subst e; rw [hv] at hv'; cases hv'; exact hk
        · have h1 := List.pairwise_iff_getElem.1 HS.out t t' (List.getElem?_eq_some_iff.1 hv).1 (List.getElem?_eq_some_iff.1 hv').1 (by omega)
          rw [(List.getElem?_eq_some_iff.1 hv').2, (List.getElem?_eq_some_iff.1 hv).2] at h1
          omega
      have HLO2 := Lib.hid hlo2
      have HHI2 := Lib.hid hhi2
      clear hlo2 hhi2 hg hv ht hcall
      go_upto_region 17 with (fail)
      refine wp_region_calm (fun w1 => Own w0 w1 (slc 3 1 (.slice (some ⟨g, 0, none⟩) N c) N (rows ie L) :: ps)) 10 (by kernel_rfl) (by kernel_rfl) H.drew ?_
      simp only [List.take_succ_cons, List.take_zero, List.drop_succ_cons, List.drop_zero]
      have hmNI : (m : Int) < (N : Int) := by omega
      repeat
        first
        | (refine calm_value (v := ?_) (by decide) rfl (fun σ w1 hS => ?_) ?_
           rotate_left
           · obtain ⟨c1, c1'⟩ := el hS.rd HG.out; obtain ⟨c2, c2'⟩ := el hS.rd HGU.out
             first | (go_simp; rfl) | rfl
           simp only [Act.put, List.setIfInBounds_toArray, List.set_cons_zero, List.set_cons_succ])
        | (refine calm_skip (by decide) rfl ?_
           simp only [Act.put, List.setIfInBounds_toArray, List.set_cons_zero, List.set_cons_succ])
      refine calm_call (v := .int .i64 cv) (by decide) rfl (fun w1 => (by go_simp; first | exact ⟨rfl, rfl⟩ | rfl)) (fun σ w1 hS => ?_) ?_
      · refine (HCALL.out w1 hS).mono ?_
        rintro e w2 ⟨_, rfl, rfl, h2⟩
        exact ⟨rfl, hS.join h2⟩
      simp only [Act.put, List.setIfInBounds_toArray, List.set_cons_zero, List.set_cons_succ]
      refine calm_nil ?_
      intro wd HD
      clear H
      by_cases hk : key u < key v
      · have hk2 : decide (cv < 0) = true := by rw [hcl]; simp [hk]
        have hn := HHI2.out hk
        clear hk hcl HLO2
        go_wp2
        go_roundw
        case rel => exact ⟨i, h, rfl, by go_num, by omega, by omega, by omega, hlo, hn, HD⟩
        case measure => simp [intOf]; omega
      · have hk2 : decide (cv < 0) = false := by rw [hcl]; simp [hk]
        have hn := HLO2.out hk
        clear hk hcl HHI2
        go_wp2
        go_roundw
        case rel => exact ⟨h + 1, j, by go_num, rfl, by omega, by omega, by omega, hn, hhi, HD⟩
        case measure => simp [intOf]; omega
    · have hij2 : i = j := by omega
      subst hij2
      obtain ⟨x1, x2, hxs, hx1⟩ := split_at x (i - a) (by have := HM.out; omega)
      have hle1 : ∀ v ∈ x1, key v ≤ key u := fun v hv => by
        obtain ⟨t, ht, rfl⟩ := List.getElem_of_mem hv
        refine hlo.out t _ (by omega) ?_
        rw [hxs, List.getElem?_append_left ht, List.getElem?_eq_getElem ht]
      have hgt2 : ∀ v ∈ x2, key u < key v := fun v hv => by
        obtain ⟨t, ht, rfl⟩ := List.getElem_of_mem hv
        refine hhi.out (x1.length + t) _ (by omega) ?_
        rw [hxs, List.getElem?_append_right (by omega), Nat.add_sub_cancel_left, List.getElem?_eq_getElem ht]
      have hmrg : Mrg key x [u] (x1 ++ u :: x2) := by
        have := Mrg.one_right (key := key) (y := u) (x1 := x1) (x2 := x2) (by rw [← hxs]; exact HS.out) hle1 hgt2
        rwa [← hxs] at this
      have HMRG := Lib.hid hmrg
      have HX1 := Lib.hid hx1
      have hx12 : Hid (i + x2.length = m) := Lib.hid (by have h1 := HM.out; rw [hxs, List.length_append] at h1; omega)
      have hLe : Hid (L = p ++ x1 ++ x2 ++ u :: q) := Lib.hid (by rw [← hL.out, hxs]; simp)
      have hHL : Hid (L.length = N) := Lib.hid (by rw [← hL.out, ← HN.out])
      clear hlo hhi hxs hle1 hgt2 hmrg hx1 hlt
      rw [hLe.out] at H
      go_wp2_with fail
      go_loopw [17] (fun s13 wx => ∃ (k : Nat) (X1 X2 : List Int), s13 = .int .i64 k ∧ i ≤ k ∧ k ≤ m ∧ Hid (x2 = X1 ++ X2) ∧ Hid (i + X1.length = k) ∧ Own w0 wx (slc 3 1 (.slice (some ⟨g, 0, none⟩) N c) N (rows ie (p ++ x1 ++ X1 ++ u :: (X2 ++ q))) :: ps)) (fun s13 _ => (intOf s13).toNat)
      case atStart => exact ⟨m, x2, [], rfl, by omega, by omega, Lib.hid (by simp), hx12, by simpa using H⟩
      case round =>
        clear H
        obtain ⟨k, X1, X2, rfl, hk1, hk2, hx2, hXl, H⟩ := hrel
        by_cases hki : i < k
        · obtain ⟨X3, v, hX1⟩ := last_split X1 (by have := hXl.out; omega)
          subst hX1
          have el1 : p ++ x1 ++ (X3 ++ [v]) ++ u :: (X2 ++ q) = (p ++ x1 ++ X3) ++ v :: ([] ++ u :: (X2 ++ q)) := by simp
          rw [el1] at H
          obtain ⟨k', rfl⟩ : ∃ k', k = k' + 1 := ⟨k - 1, by omega⟩
          have hkl : k' = (p ++ x1 ++ X3).length := by
            have h1 := hXl.out; have h2 := HP.out; have h3 := HX1.out
            rw [List.length_append, List.length_singleton] at h1
            simp only [List.length_append]
            omega
          have hLn : ((p ++ x1 ++ X3) ++ v :: ([] ++ u :: (X2 ++ q))).length = N := by
            rw [← hHL.out, hLe.out, hx2.out]
            simp only [List.length_append, List.length_cons, List.length_nil]
            omega
          have hg1 : ((p ++ x1 ++ X3) ++ v :: ([] ++ u :: (X2 ++ q)))[k']? = some v := get_mid _ _ _ hkl
          have hg2 : ((p ++ x1 ++ X3) ++ v :: ([] ++ u :: (X2 ++ q)))[k' + 1]? = some u := by
            have : (p ++ x1 ++ X3) ++ v :: ([] ++ u :: (X2 ++ q)) = ((p ++ x1 ++ X3) ++ [v]) ++ u :: (X2 ++ q) := by simp
            rw [this]
            exact get_mid _ _ _ (by rw [List.length_append (bs := [v]), List.length_singleton, ← hkl])
          have hsw := set_swap (p ++ x1 ++ X3) [] (X2 ++ q) v u (i := k') (j := k' + 1) hkl (by simp only [List.length_nil]; omega)
          obtain ⟨M, hM⟩ : ∃ M, Hid ((p ++ x1 ++ X3) ++ v :: ([] ++ u :: (X2 ++ q)) = M) := ⟨_, Lib.hid rfl⟩
          rw [hM.out] at H hg1 hg2 hsw hLn
          have HG1 := Lib.hid hg1
          have HG2 := Lib.hid hg2
          have e1 : (rows ie M).take ((k' + 1) * 1) ++ ie v ++ (rows ie M).drop ((k' + 1) * 1 + 1) = rows ie (M.set (k' + 1) v) := set_rows (by rw [hLn]; omega) v
          have e2 : (rows ie (M.set (k' + 1) v)).take (k' * 1) ++ ie u ++ (rows ie (M.set (k' + 1) v)).drop (k' * 1 + 1) = rows ie (p ++ x1 ++ X3 ++ u :: ((v :: X2) ++ q)) := by
            rw [set_rows (by rw [List.length_set, hLn]; omega) u, List.set_comm _ _ (by omega), hsw]
            simp
          have E1 := Lib.hid e1
          have E2 := Lib.hid e2
          have hik : i ≤ k' := by omega
          have hikI : (i : Int) < (k' : Int) + 1 := by omega
          have hkN : (k' : Int) < (N : Int) := by omega
          have hkN1 : (k' : Int) + 1 < (N : Int) := by omega
          have hkT : ((k' : Int) + 1).toNat = k' + 1 := by omega
          have hkw : IntKind.i64.wrap (k' : Int) = (k' : Int) := IntWalk.i64_in _ ⟨by omega, by omega⟩
          have hX' : Hid (x2 = X3 ++ (v :: X2)) := Lib.hid (by rw [hx2.out]; simp)
          have hXl' : Hid (i + X3.length = k') := Lib.hid (by have := hXl.out; rw [List.length_append, List.length_singleton] at this; omega)
          clear hg1 hg2 hsw hLn e1 e2 el1 hkl hM hki
          go_upto_region 23 with (fail)
          refine wp_region_pres (fun _ w1 => Own w0 w1 (slc 3 1 (.slice (some ⟨g, 0, none⟩) N c) N (rows ie M) :: ps)) 14 [] [2, 3, 4] (by kernel_rfl) (by kernel_rfl) (by kernel_rfl) (by kernel_rfl) (fun _ _ d _ _ h => by cases d <;> exact h) ⟨_, _, rfl, fun w => (by first | rfl | (go_simp; rfl)), _, _, rfl, fun w => (by first | rfl | (go_simp; rfl)), _, _, rfl, fun w => (by first | rfl | (go_simp; rfl)), rfl⟩ H.drew ?_
          simp only [List.take_succ_cons, List.take_zero, List.drop_succ_cons, List.drop_zero]
          repeat
            first
            | (refine calm_value (v := ?_) (by decide) rfl (fun σ w1 hS => ?_) ?_
               rotate_left
               · obtain ⟨c1, c1'⟩ := el hS.rd HG1.out; obtain ⟨c2, c2'⟩ := el hS.rd HG2.out
                 first | (go_simp; rfl) | rfl
               simp only [Act.put, List.setIfInBounds_toArray, List.set_cons_zero, List.set_cons_succ])
            | (refine calm_skip (by decide) rfl ?_
               simp only [Act.put, List.setIfInBounds_toArray, List.set_cons_zero, List.set_cons_succ])
          refine calm_nil ?_
          intro σ2 wd2 _ H2
          simp only [putNew, List.foldl_nil]
          clear H
          go_wp2_with (first
            | (refine wpList_store_elem rfl _ _ rfl (i := k' + 1) (by first | rfl | (rw [Nat.mul_one]; rfl)) H2 (ie v) rfl (by kernel_rfl) rfl (by omega) (e_one v) ?_; clear H2; intro w5 H; rw [E1.out] at H)
            | (refine wpList_store_elem rfl _ _ rfl (i := k') (by first | rfl | (rw [Nat.mul_one]; rfl)) H (ie u) rfl (by kernel_rfl) rfl (by omega) (e_one u) ?_; clear H; intro w6 H; rw [E2.out] at H))
          go_roundw
          case rel => exact ⟨k', X3, v :: X2, by go_num, by omega, by omega, hX', hXl', H⟩
          case measure => simp [intOf]
        · have hik2 : k = i := by omega
          subst hik2
          have hX10 : X1 = [] := by have := hXl.out; exact List.eq_nil_of_length_eq_zero (by omega)
          have e1 : Hid (x2 = X2) := Lib.hid (by rw [hx2.out, hX10, List.nil_append])
          have el2 : p ++ x1 ++ X1 ++ u :: (X2 ++ q) = p ++ (x1 ++ u :: x2) ++ q := by rw [hX10, e1.out]; simp
          rw [el2] at H
          clear el2 hX10 hki
          go_wp2
          go_end0
          exact ⟨_, rfl, _, HMRG.out, by simpa using H⟩
end
end SI
end Go.Proofs.Ytljejkdkjnbmhaa
/- The stable sort of slices of ints: the walk of symMerge: what comes behind the search. (Written by tools/srt.py.) -/
namespace Go.Proofs.Ytljejkdkjnbmhaa
open Go.RowKit
namespace SI
noncomputable def symTail (r : Nat) : Code := ((Try.f86.body.bind (fromR r)).getD .skip)
/-- What symMerge does with two parts of f elements at most. -/
def SymAt (w0 : World) (ps : List Piece) (ok : Int → Prop) (key : Int → Int) (B g c N f : Nat) : Prop :=
  ∀ (w : World) (p x y q : List Int) (a m b : Nat), x.length + y.length ≤ f → (∀ v ∈ x, ok v) → (∀ v ∈ y, ok v) → Srt key x → Srt key y → a = p.length → m = a + x.length → b = m + y.length → 0 < x.length → 0 < y.length → N = (p ++ x ++ y ++ q).length →
    Own w0 w (slc 3 1 (.slice (some ⟨g, 0, none⟩) N c) N (rows ie (p ++ x ++ y ++ q)) :: ps) →
    Calls Try.prog 86 #[.slice (some ⟨g, 0, none⟩) N c, .int .i64 a, .int .i64 m, .int .i64 b, cf B] w (Ret fun _ w' => ∃ z, Mrg key x y z ∧ Own w0 w' (slc 3 1 (.slice (some ⟨g, 0, none⟩) N c) N (rows ie (p ++ z ++ q)) :: ps))
section
variable {w0 : World} {ps : List Piece} {ok : Int → Prop} {key : Int → Int} {B : Nat}
set_option maxRecDepth 1000000 in
set_option maxHeartbeats 12800000 in
theorem tail3 {g c N f : Nat} {p q x y X1 X2 Y1 Y2 : List Int} {a m b s en mid : Nat} {M1 : List Int} (wr : World) (hNb : N ≤ 1000000) (IH : Hid (SymAt w0 ps ok key B g c N f)) (HFINAL : Hid (∀ z1 z2, Mrg key X1 Y1 z1 → Mrg key X2 Y2 z2 → Mrg key x y (z1 ++ z2)))
    (HOX1 : Hid (∀ v ∈ X1, ok v)) (HOX2 : Hid (∀ v ∈ X2, ok v)) (HOY1 : Hid (∀ v ∈ Y1, ok v)) (HOY2 : Hid (∀ v ∈ Y2, ok v)) (HSX1 : Hid (Srt key X1)) (HSX2 : Hid (Srt key X2)) (HSY1 : Hid (Srt key Y1)) (HSY2 : Hid (Srt key Y2))
    (HNL : Hid (N = (p ++ X1 ++ X2 ++ Y1 ++ Y2 ++ q).length)) (HMID2 : Hid (mid + mid ≤ a + b ∧ a + b ≤ mid + mid + 1)) (ham : a + 2 ≤ m) (hmb : m + 2 ≤ b) (hbN : b ≤ N)
    (hlens : Hid (a = p.length ∧ s = a + X1.length ∧ m = s + X2.length ∧ en = m + Y1.length ∧ b = en + Y2.length ∧ mid = s + Y1.length ∧ en = mid + X2.length ∧ X1.length + X2.length + (Y1.length + Y2.length) ≤ f + 1 ∧ 0 < X1.length + X2.length ∧ 0 < Y1.length + Y2.length))
    (hensN1 : en ≤ N) (hensN2 : s ≤ N) (hmN1 : mid ≤ N) (hM1 : Hid (Mrg key X1 Y1 M1)) (z5 z6 z7 z8 z9 z10 z11 z12 z13 z14 z15 z16 z17 z19 z21 z22 z23 z25 z26 z27 z28 z29 z30 z31 z32 z33 z34 z35 z36 z37 z38 z39 z40 z41 z42 z43 z44 z45 z46 z47 z48 z49 z50 z51 z52 z53 z54 z55 z56 z57 z58 z59 z60 z61 z62 z63 z64 z65 z66 z67 z68 z69 z70 z71 z72 z73 z74 z75 z76 z77 z78 z79 z80 z81 z82 z83 z84 z85 z86 z87 z88 z89 z90 z91 z92 z93 z94 z95 z96 z97 z98 z99 z100 z101 z102 z103 z104 z105 z106 z107 z108 z109 z110 z111 z112 z113 z114 z115 z116 z117 z118 z119 z120 z121 z122 z123 z124 z125 z126 z127 z128 z129 z130 z131 z132 z133 z134 z135 z136 z137 z138 z139 z140 z141 z142 z143 z144 z145 z146 z147 z148 z149 z150 z151 z152 z153 z154 z155 z156 z157 z158 z159 z160 z161 z162 z163 z164 z165 z166 z167 z168 z169 z170 z171 z172 z173 z174 z175 z176 z177 z178 z179 z180 z181 z182 z183 z184 z185 z186 z187 z188 z189 z190 z191 z192 z193 z194 z195 z196 z197 z198 z199 z200 z201 z202 z203 z204 z205 z206 z207 z208 z209 z210 z211 z212 z213 z214 z215 z216 z217 z218 z219 : Value)
    (H : Own w0 wr (slc 3 1 (.slice (some ⟨g, 0, none⟩) N c) N (rows ie (p ++ M1 ++ X2 ++ Y2 ++ q)) :: ps)) :
    Code.wp Try.prog (symTail 43) (bodyPost Try.prog Try.f86 (Ret fun _ w' => ∃ z, Mrg key x y z ∧ Own w0 w' (slc 3 1 (.slice (some ⟨g, 0, none⟩) N c) N (rows ie (p ++ z ++ q)) :: ps))) ⟨#[.slice (some ⟨g, 0, none⟩) N c, .int .i64 a, .int .i64 m, .int .i64 b, cf B, z5, z6, z7, z8, z9, z10, z11, z12, z13, z14, z15, z16, z17, .int .i64 mid, z19, .int .i64 s, z21, z22, z23, .int .i64 en, z25, z26, z27, z28, z29, z30, z31, z32, z33, z34, z35, z36, z37, z38, z39, z40, z41, z42, z43, z44, z45, z46, z47, z48, z49, z50, z51, z52, z53, z54, z55, z56, z57, z58, z59, z60, z61, z62, z63, z64, z65, z66, z67, z68, z69, z70, z71, z72, z73, z74, z75, z76, z77, z78, z79, z80, z81, z82, z83, z84, z85, z86, z87, z88, z89, z90, z91, z92, z93, z94, z95, z96, z97, z98, z99, z100, z101, z102, z103, z104, z105, z106, z107, z108, z109, z110, z111, z112, z113, z114, z115, z116, z117, z118, z119, z120, z121, z122, z123, z124, z125, z126, z127, z128, z129, z130, z131, z132, z133, z134, z135, z136, z137, z138, z139, z140, z141, z142, z143, z144, z145, z146, z147, z148, z149, z150, z151, z152, z153, z154, z155, z156, z157, z158, z159, z160, z161, z162, z163, z164, z165, z166, z167, z168, z169, z170, z171, z172, z173, z174, z175, z176, z177, z178, z179, z180, z181, z182, z183, z184, z185, z186, z187, z188, z189, z190, z191, z192, z193, z194, z195, z196, z197, z198, z199, z200, z201, z202, z203, z204, z205, z206, z207, z208, z209, z210, z211, z212, z213, z214, z215, z216, z217, z218, z219], []⟩ wr := by
  conv => arg 2; whnf
  dsimp only
  have hM1l : Hid (M1.length = X1.length + Y1.length) := Lib.hid (by rw [← hM1.out.2.length, List.length_append])
  have hNL3 : Hid (N = (p ++ M1 ++ X2 ++ Y2 ++ q).length) := Lib.hid (by rw [HNL.out]; have := hM1l.out; simp only [List.length_append]; omega)
  obtain ⟨t3, ht3⟩ : ∃ t, Hid ((decide (mid < en) && decide (en < b)) = t) := ⟨_, Lib.hid rfl⟩
  go_upto_region 43 with (fail)
  go_cut [213] (fun s1 wx => s1 = .bool t3 ∧ Own w0 wx (slc 3 1 (.slice (some ⟨g, 0, none⟩) N c) N (rows ie (p ++ M1 ++ X2 ++ Y2 ++ q)) :: ps))
  case first =>
    by_cases h1 : mid < en
    · by_cases h2 : en < b
      · have e : Hid (t3 = true) := Lib.hid (by rw [← ht3.out]; simp [h1, h2])
        go_wp2
        go_meet
        exact ⟨by rw [e.out], H⟩
      · have e : Hid (t3 = false) := Lib.hid (by rw [← ht3.out]; simp [h2])
        go_wp2
        go_meet
        exact ⟨by rw [e.out], H⟩
    · have e : Hid (t3 = false) := Lib.hid (by rw [← ht3.out]; simp [h1])
      go_wp2
      go_meet
      exact ⟨by rw [e.out], H⟩
  case rest =>
  clear H
  obtain ⟨rfl, H⟩ := hcut
  obtain ⟨l1, l2, l3, l4, l5, l6, l7, l8, l9, l10⟩ := hlens.out
  have hM1l' := hM1l.out
  have hm2 := HMID2.out
  cases t3 with
  | true =>
    have h := ht3.out
    simp only [Bool.and_eq_true, decide_eq_true_eq] at h
    have e1 : p ++ M1 ++ X2 ++ Y2 ++ q = (p ++ M1) ++ X2 ++ Y2 ++ q := by simp
    have hr := IH.out wc (p ++ M1) X2 Y2 q mid en b (by omega) HOX2.out HOY2.out HSX2.out HSY2.out (by rw [List.length_append]; omega) l7 l5 (by omega) (by omega) (by rw [← e1]; exact hNL3.out) (by rw [← e1]; exact H)
    have HR := Lib.hid hr
    clear hr l1 l2 l3 l4 l5 l6 l7 l8 l9 l10 h e1 hM1l' hm2
    go_wp2_with fail
    refine HR.out.mono ?_
    rintro e w3 ⟨_, rfl, z, hz, H3⟩
    clear HR H
    go_wp2
    go_end0
    exact ⟨_, rfl, M1 ++ z, HFINAL.out _ _ hM1.out hz, by simpa using H3⟩
  | false =>
    have h := ht3.out
    simp only [Bool.and_eq_false_iff, decide_eq_false_iff_not] at h
    have e1 : Hid (Mrg key X2 Y2 (X2 ++ Y2)) := Lib.hid (by
      rcases h with h | h
      · have : X2 = [] := List.eq_nil_of_length_eq_zero (by omega)
        rw [this]; exact Mrg.right HSY2.out
      · have : Y2 = [] := List.eq_nil_of_length_eq_zero (by omega)
        rw [this, List.append_nil]; exact Mrg.left HSX2.out)
    clear l1 l2 l3 l4 l5 l6 l7 l8 l9 l10 h hM1l' hm2
    go_wp2
    go_end0
    exact ⟨_, rfl, M1 ++ (X2 ++ Y2), HFINAL.out _ _ hM1.out e1.out, by simpa using H⟩

set_option maxRecDepth 1000000 in
set_option maxHeartbeats 12800000 in
theorem tail2 {g c N f : Nat} {p q x y X1 X2 Y1 Y2 : List Int} {a m b s en mid : Nat} (wr : World) (hNb : N ≤ 1000000) (IH : Hid (SymAt w0 ps ok key B g c N f)) (HFINAL : Hid (∀ z1 z2, Mrg key X1 Y1 z1 → Mrg key X2 Y2 z2 → Mrg key x y (z1 ++ z2)))
    (HOX1 : Hid (∀ v ∈ X1, ok v)) (HOX2 : Hid (∀ v ∈ X2, ok v)) (HOY1 : Hid (∀ v ∈ Y1, ok v)) (HOY2 : Hid (∀ v ∈ Y2, ok v)) (HSX1 : Hid (Srt key X1)) (HSX2 : Hid (Srt key X2)) (HSY1 : Hid (Srt key Y1)) (HSY2 : Hid (Srt key Y2))
    (HNL : Hid (N = (p ++ X1 ++ X2 ++ Y1 ++ Y2 ++ q).length)) (HMID2 : Hid (mid + mid ≤ a + b ∧ a + b ≤ mid + mid + 1)) (ham : a + 2 ≤ m) (hmb : m + 2 ≤ b) (hbN : b ≤ N)
    (hlens : Hid (a = p.length ∧ s = a + X1.length ∧ m = s + X2.length ∧ en = m + Y1.length ∧ b = en + Y2.length ∧ mid = s + Y1.length ∧ en = mid + X2.length ∧ X1.length + X2.length + (Y1.length + Y2.length) ≤ f + 1 ∧ 0 < X1.length + X2.length ∧ 0 < Y1.length + Y2.length))
    (hensN1 : en ≤ N) (hensN2 : s ≤ N) (hmN1 : mid ≤ N) (z5 z6 z7 z8 z9 z10 z11 z12 z13 z14 z15 z16 z17 z19 z21 z22 z23 z25 z26 z27 z28 z29 z30 z31 z32 z33 z34 z35 z36 z37 z38 z39 z40 z41 z42 z43 z44 z45 z46 z47 z48 z49 z50 z51 z52 z53 z54 z55 z56 z57 z58 z59 z60 z61 z62 z63 z64 z65 z66 z67 z68 z69 z70 z71 z72 z73 z74 z75 z76 z77 z78 z79 z80 z81 z82 z83 z84 z85 z86 z87 z88 z89 z90 z91 z92 z93 z94 z95 z96 z97 z98 z99 z100 z101 z102 z103 z104 z105 z106 z107 z108 z109 z110 z111 z112 z113 z114 z115 z116 z117 z118 z119 z120 z121 z122 z123 z124 z125 z126 z127 z128 z129 z130 z131 z132 z133 z134 z135 z136 z137 z138 z139 z140 z141 z142 z143 z144 z145 z146 z147 z148 z149 z150 z151 z152 z153 z154 z155 z156 z157 z158 z159 z160 z161 z162 z163 z164 z165 z166 z167 z168 z169 z170 z171 z172 z173 z174 z175 z176 z177 z178 z179 z180 z181 z182 z183 z184 z185 z186 z187 z188 z189 z190 z191 z192 z193 z194 z195 z196 z197 z198 z199 z200 z201 z202 z203 z204 z205 z206 z207 z208 z209 z210 z211 z212 z213 z214 z215 z216 z217 z218 z219 : Value)
    (H : Own w0 wr (slc 3 1 (.slice (some ⟨g, 0, none⟩) N c) N (rows ie (p ++ X1 ++ Y1 ++ X2 ++ Y2 ++ q)) :: ps)) :
    Code.wp Try.prog (symTail 41) (bodyPost Try.prog Try.f86 (Ret fun _ w' => ∃ z, Mrg key x y z ∧ Own w0 w' (slc 3 1 (.slice (some ⟨g, 0, none⟩) N c) N (rows ie (p ++ z ++ q)) :: ps))) ⟨#[.slice (some ⟨g, 0, none⟩) N c, .int .i64 a, .int .i64 m, .int .i64 b, cf B, z5, z6, z7, z8, z9, z10, z11, z12, z13, z14, z15, z16, z17, .int .i64 mid, z19, .int .i64 s, z21, z22, z23, .int .i64 en, z25, z26, z27, z28, z29, z30, z31, z32, z33, z34, z35, z36, z37, z38, z39, z40, z41, z42, z43, z44, z45, z46, z47, z48, z49, z50, z51, z52, z53, z54, z55, z56, z57, z58, z59, z60, z61, z62, z63, z64, z65, z66, z67, z68, z69, z70, z71, z72, z73, z74, z75, z76, z77, z78, z79, z80, z81, z82, z83, z84, z85, z86, z87, z88, z89, z90, z91, z92, z93, z94, z95, z96, z97, z98, z99, z100, z101, z102, z103, z104, z105, z106, z107, z108, z109, z110, z111, z112, z113, z114, z115, z116, z117, z118, z119, z120, z121, z122, z123, z124, z125, z126, z127, z128, z129, z130, z131, z132, z133, z134, z135, z136, z137, z138, z139, z140, z141, z142, z143, z144, z145, z146, z147, z148, z149, z150, z151, z152, z153, z154, z155, z156, z157, z158, z159, z160, z161, z162, z163, z164, z165, z166, z167, z168, z169, z170, z171, z172, z173, z174, z175, z176, z177, z178, z179, z180, z181, z182, z183, z184, z185, z186, z187, z188, z189, z190, z191, z192, z193, z194, z195, z196, z197, z198, z199, z200, z201, z202, z203, z204, z205, z206, z207, z208, z209, z210, z211, z212, z213, z214, z215, z216, z217, z218, z219], []⟩ wr := by
  conv => arg 2; whnf
  dsimp only
  have hNL2 : Hid (N = (p ++ X1 ++ Y1 ++ X2 ++ Y2 ++ q).length) := Lib.hid (by rw [HNL.out]; simp only [List.length_append]; omega)
  obtain ⟨t2, ht2⟩ : ∃ t, Hid ((decide (a < s) && decide (s < mid)) = t) := ⟨_, Lib.hid rfl⟩
  go_upto_region 41 with (fail)
  go_cut [199] (fun s1 wx => s1 = .bool t2 ∧ Own w0 wx (slc 3 1 (.slice (some ⟨g, 0, none⟩) N c) N (rows ie (p ++ X1 ++ Y1 ++ X2 ++ Y2 ++ q)) :: ps))
  case first =>
    by_cases h1 : a < s
    · by_cases h2 : s < mid
      · have e : Hid (t2 = true) := Lib.hid (by rw [← ht2.out]; simp [h1, h2])
        go_wp2
        go_meet
        exact ⟨by rw [e.out], H⟩
      · have e : Hid (t2 = false) := Lib.hid (by rw [← ht2.out]; simp [h2])
        go_wp2
        go_meet
        exact ⟨by rw [e.out], H⟩
    · have e : Hid (t2 = false) := Lib.hid (by rw [← ht2.out]; simp [h1])
      go_wp2
      go_meet
      exact ⟨by rw [e.out], H⟩
  case rest =>
  clear H
  obtain ⟨rfl, H⟩ := hcut
  go_upto_if 199 with (fail)
  go_cut [] (fun wx => ∃ M1, Hid (Mrg key X1 Y1 M1) ∧ Own w0 wx (slc 3 1 (.slice (some ⟨g, 0, none⟩) N c) N (rows ie (p ++ M1 ++ X2 ++ Y2 ++ q)) :: ps))
  case first =>
    obtain ⟨l1, l2, l3, l4, l5, l6, l7, l8, l9, l10⟩ := hlens.out
    have hm2 := HMID2.out
    cases t2 with
    | true =>
      have h := ht2.out
      simp only [Bool.and_eq_true, decide_eq_true_eq] at h
      have e1 : p ++ X1 ++ Y1 ++ X2 ++ Y2 ++ q = p ++ X1 ++ Y1 ++ (X2 ++ Y2 ++ q) := by simp
      have hr := IH.out wc p X1 Y1 (X2 ++ Y2 ++ q) a s mid (by omega) HOX1.out HOY1.out HSX1.out HSY1.out l1 l2 l6 (by omega) (by omega) (by rw [← e1]; exact hNL2.out) (by rw [← e1]; exact H)
      have HR := Lib.hid hr
      clear hr l1 l2 l3 l4 l5 l6 l7 l8 l9 l10 h e1 hm2
      go_wp2_with fail
      refine HR.out.mono ?_
      rintro e w3 ⟨_, rfl, z, hz, H3⟩
      clear HR H
      go_wp2
      go_meet
      exact ⟨z, Lib.hid hz, by simpa using H3⟩
    | false =>
      have h := ht2.out
      simp only [Bool.and_eq_false_iff, decide_eq_false_iff_not] at h
      have e1 : Hid (Mrg key X1 Y1 (X1 ++ Y1)) := Lib.hid (by
        rcases h with h | h
        · have : X1 = [] := List.eq_nil_of_length_eq_zero (by omega)
          rw [this]; exact Mrg.right HSY1.out
        · have : Y1 = [] := List.eq_nil_of_length_eq_zero (by omega)
          rw [this, List.append_nil]; exact Mrg.left HSX1.out)
      clear l1 l2 l3 l4 l5 l6 l7 l8 l9 l10 h hm2
      go_wp2
      go_meet
      exact ⟨X1 ++ Y1, e1, by simpa using H⟩
  case rest =>
  clear H
  obtain ⟨M1, hM1, H⟩ := hcut
  apply_assumption
  exact tail3 (p := p) (q := q) (x := x) (y := y) (X1 := X1) (X2 := X2) (Y1 := Y1) (Y2 := Y2) (a := a) (m := m) (b := b) (s := s) (en := en) (mid := mid) (M1 := M1) wc hNb IH HFINAL HOX1 HOX2 HOY1 HOY2 HSX1 HSX2 HSY1 HSY2 HNL HMID2 ham hmb hbN hlens hensN1 hensN2 hmN1 hM1 _ _ _ _ _ _ _ _ _ _ _ _ _ _ _ _ _ _ _ _ _ _ _ _ _ _ _ _ _ _ _ _ _ _ _ _ _ _ _ _ _ _ _ _ _ _ _ _ _ _ _ _ _ _ _ _ _ _ _ _ _ _ _ _ _ _ _ _ _ _ _ _ _ _ _ _ _ _ _ _ _ _ _ _ _ _ _ _ _ _ _ _ _ _ _ _ _ _ _ _ _ _ _ _ _ _ _ _ _ _ _ _ _ _ _ _ _ _ _ _ _ _ _ _ _ _ _ _ _ _ _ _ _ _ _ _ _ _ _ _ _ _ _ _ _ _ _ _ _ _ _ _ _ _ _ _ _ _ _ _ _ _ _ _ _ _ _ _ _ _ _ _ _ _ _ _ _ _ _ _ _ _ _ _ _ _ _ _ _ _ _ _ _ _ _ _ _ _ _ _ _ _ _ _ _ _ _ _ _ _ _ _ H

set_option maxRecDepth 1000000 in
set_option maxHeartbeats 12800000 in
theorem tail_any {g c N f : Nat} {p q x y X1 X2 Y1 Y2 : List Int} {a m b s en mid : Nat} {n : Nat} (wr : World) (hNb : N ≤ 1000000) (IH : Hid (SymAt w0 ps ok key B g c N f)) (HFINAL : Hid (∀ z1 z2, Mrg key X1 Y1 z1 → Mrg key X2 Y2 z2 → Mrg key x y (z1 ++ z2)))
    (HOX1 : Hid (∀ v ∈ X1, ok v)) (HOX2 : Hid (∀ v ∈ X2, ok v)) (HOY1 : Hid (∀ v ∈ Y1, ok v)) (HOY2 : Hid (∀ v ∈ Y2, ok v)) (HSX1 : Hid (Srt key X1)) (HSX2 : Hid (Srt key X2)) (HSY1 : Hid (Srt key Y1)) (HSY2 : Hid (Srt key Y2))
    (HNL : Hid (N = (p ++ X1 ++ X2 ++ Y1 ++ Y2 ++ q).length)) (HMID2 : Hid (mid + mid ≤ a + b ∧ a + b ≤ mid + mid + 1)) (ham : a + 2 ≤ m) (hmb : m + 2 ≤ b) (hbN : b ≤ N)
    (hlens : Hid (a = p.length ∧ s = a + X1.length ∧ m = s + X2.length ∧ en = m + Y1.length ∧ b = en + Y2.length ∧ mid = s + Y1.length ∧ en = mid + X2.length ∧ X1.length + X2.length + (Y1.length + Y2.length) ≤ f + 1 ∧ 0 < X1.length + X2.length ∧ 0 < Y1.length + Y2.length))
    (hensN1 : en ≤ N) (hensN2 : s ≤ N) (hmN1 : mid ≤ N) (henI : ((n : Int) - (s : Int)) = (en : Int)) (hsn : s ≤ n) (hmN2 : n ≤ 2 * N) (z5 z6 z7 z8 z9 z10 z11 z12 z13 z14 z15 z16 z17 z21 z22 z23 z24 z25 z26 z27 z28 z29 z30 z31 z32 z33 z34 z35 z36 z37 z38 z39 z40 z41 z42 z43 z44 z45 z46 z47 z48 z49 z50 z51 z52 z53 z54 z55 z56 z57 z58 z59 z60 z61 z62 z63 z64 z65 z66 z67 z68 z69 z70 z71 z72 z73 z74 z75 z76 z77 z78 z79 z80 z81 z82 z83 z84 z85 z86 z87 z88 z89 z90 z91 z92 z93 z94 z95 z96 z97 z98 z99 z100 z101 z102 z103 z104 z105 z106 z107 z108 z109 z110 z111 z112 z113 z114 z115 z116 z117 z118 z119 z120 z121 z122 z123 z124 z125 z126 z127 z128 z129 z130 z131 z132 z133 z134 z135 z136 z137 z138 z139 z140 z141 z142 z143 z144 z145 z146 z147 z148 z149 z150 z151 z152 z153 z154 z155 z156 z157 z158 z159 z160 z161 z162 z163 z164 z165 z166 z167 z168 z169 z170 z171 z172 z173 z174 z175 z176 z177 z178 z179 z180 z181 z182 z183 z184 z185 z186 z187 z188 z189 z190 z191 z192 z193 z194 z195 z196 z197 z198 z199 z200 z201 z202 z203 z204 z205 z206 z207 z208 z209 z210 z211 z212 z213 z214 z215 z216 z217 z218 z219 : Value)
    (H : Own w0 wr (slc 3 1 (.slice (some ⟨g, 0, none⟩) N c) N (rows ie (p ++ X1 ++ X2 ++ Y1 ++ Y2 ++ q)) :: ps)) :
    Code.wp Try.prog (symTail 38) (bodyPost Try.prog Try.f86 (Ret fun _ w' => ∃ z, Mrg key x y z ∧ Own w0 w' (slc 3 1 (.slice (some ⟨g, 0, none⟩) N c) N (rows ie (p ++ z ++ q)) :: ps))) ⟨#[.slice (some ⟨g, 0, none⟩) N c, .int .i64 a, .int .i64 m, .int .i64 b, cf B, z5, z6, z7, z8, z9, z10, z11, z12, z13, z14, z15, z16, z17, .int .i64 mid, .int .i64 n, .int .i64 s, z21, z22, z23, z24, z25, z26, z27, z28, z29, z30, z31, z32, z33, z34, z35, z36, z37, z38, z39, z40, z41, z42, z43, z44, z45, z46, z47, z48, z49, z50, z51, z52, z53, z54, z55, z56, z57, z58, z59, z60, z61, z62, z63, z64, z65, z66, z67, z68, z69, z70, z71, z72, z73, z74, z75, z76, z77, z78, z79, z80, z81, z82, z83, z84, z85, z86, z87, z88, z89, z90, z91, z92, z93, z94, z95, z96, z97, z98, z99, z100, z101, z102, z103, z104, z105, z106, z107, z108, z109, z110, z111, z112, z113, z114, z115, z116, z117, z118, z119, z120, z121, z122, z123, z124, z125, z126, z127, z128, z129, z130, z131, z132, z133, z134, z135, z136, z137, z138, z139, z140, z141, z142, z143, z144, z145, z146, z147, z148, z149, z150, z151, z152, z153, z154, z155, z156, z157, z158, z159, z160, z161, z162, z163, z164, z165, z166, z167, z168, z169, z170, z171, z172, z173, z174, z175, z176, z177, z178, z179, z180, z181, z182, z183, z184, z185, z186, z187, z188, z189, z190, z191, z192, z193, z194, z195, z196, z197, z198, z199, z200, z201, z202, z203, z204, z205, z206, z207, z208, z209, z210, z211, z212, z213, z214, z215, z216, z217, z218, z219], []⟩ wr := by
  conv => arg 2; whnf
  dsimp only
  obtain ⟨t1, ht1⟩ : ∃ t, Hid ((decide (s < m) && decide (m < en)) = t) := ⟨_, Lib.hid rfl⟩
  go_upto_region 39 with (fail)
  go_cut [185] (fun s1 wx => s1 = .bool t1 ∧ Own w0 wx (slc 3 1 (.slice (some ⟨g, 0, none⟩) N c) N (rows ie (p ++ X1 ++ X2 ++ Y1 ++ Y2 ++ q)) :: ps))
  case first =>
    by_cases h1 : s < m
    · by_cases h2 : m < en
      · have e : Hid (t1 = true) := Lib.hid (by rw [← ht1.out]; simp [h1, h2])
        go_wp2
        go_meet
        exact ⟨by rw [e.out], H⟩
      · have e : Hid (t1 = false) := Lib.hid (by rw [← ht1.out]; simp [h2])
        go_wp2
        go_meet
        exact ⟨by rw [e.out], H⟩
    · have e : Hid (t1 = false) := Lib.hid (by rw [← ht1.out]; simp [h1])
      go_wp2
      go_meet
      exact ⟨by rw [e.out], H⟩
  case rest =>
  clear H
  obtain ⟨rfl, H⟩ := hcut
  go_upto_if 185 with (fail)
  go_cut [] (fun wx => Own w0 wx (slc 3 1 (.slice (some ⟨g, 0, none⟩) N c) N (rows ie (p ++ X1 ++ Y1 ++ X2 ++ Y2 ++ q)) :: ps))
  case first =>
    obtain ⟨l1, l2, l3, l4, l5, l6, l7, l8, l9, l10⟩ := hlens.out
    cases t1 with
    | true =>
      have h := ht1.out
      simp only [Bool.and_eq_true, decide_eq_true_eq] at h
      have e1 : p ++ X1 ++ X2 ++ Y1 ++ Y2 ++ q = (p ++ X1) ++ X2 ++ Y1 ++ (Y2 ++ q) := by simp
      have hr := rotate_any (w0 := w0) (w := wc) (ps := ps) (g := g) (c := c) (N := N) (p := p ++ X1) (x := X2) (y := Y1) (q := Y2 ++ q) (a := s) (m := m) (b := en) (cf B) (by rw [List.length_append]; omega) l3 l4 (by omega) (by omega) (by rw [← e1]; exact HNL.out) hNb (by rw [← e1]; exact H)
      have HR := Lib.hid hr
      clear hr l1 l2 l3 l4 l5 l6 l7 l8 l9 l10 h e1
      go_wp2_with fail
      refine HR.out.mono ?_
      rintro e w3 ⟨_, rfl, H3⟩
      clear HR H
      go_wp2
      go_meet
      simpa using H3
    | false =>
      have h := ht1.out
      simp only [Bool.and_eq_false_iff, decide_eq_false_iff_not] at h
      have e1 : p ++ X1 ++ X2 ++ Y1 ++ Y2 ++ q = p ++ X1 ++ Y1 ++ X2 ++ Y2 ++ q := by
        rcases h with h | h
        · have : X2 = [] := List.eq_nil_of_length_eq_zero (by omega)
          rw [this]; simp
        · have : Y1 = [] := List.eq_nil_of_length_eq_zero (by omega)
          rw [this]; simp
      rw [e1] at H
      clear l1 l2 l3 l4 l5 l6 l7 l8 l9 l10 h e1
      go_wp2
      go_meet
      exact H
  case rest =>
  clear H
  have H := hcut
  clear hcut
  apply_assumption
  exact tail2 (p := p) (q := q) (x := x) (y := y) (X1 := X1) (X2 := X2) (Y1 := Y1) (Y2 := Y2) (a := a) (m := m) (b := b) (s := s) (en := en) (mid := mid) wc hNb IH HFINAL HOX1 HOX2 HOY1 HOY2 HSX1 HSX2 HSY1 HSY2 HNL HMID2 ham hmb hbN hlens hensN1 hensN2 hmN1 _ _ _ _ _ _ _ _ _ _ _ _ _ _ _ _ _ _ _ _ _ _ _ _ _ _ _ _ _ _ _ _ _ _ _ _ _ _ _ _ _ _ _ _ _ _ _ _ _ _ _ _ _ _ _ _ _ _ _ _ _ _ _ _ _ _ _ _ _ _ _ _ _ _ _ _ _ _ _ _ _ _ _ _ _ _ _ _ _ _ _ _ _ _ _ _ _ _ _ _ _ _ _ _ _ _ _ _ _ _ _ _ _ _ _ _ _ _ _ _ _ _ _ _ _ _ _ _ _ _ _ _ _ _ _ _ _ _ _ _ _ _ _ _ _ _ _ _ _ _ _ _ _ _ _ _ _ _ _ _ _ _ _ _ _ _ _ _ _ _ _ _ _ _ _ _ _ _ _ _ _ _ _ _ _ _ _ _ _ _ _ _ _ _ _ _ _ _ _ _ _ _ _ _ _ _ _ _ _ _ _ _ H
end
end SI
end Go.Proofs.Ytljejkdkjnbmhaa
/- The stable sort of slices of ints: the walk of symMerge. (Written by tools/srt.py.) -/
namespace Go.Proofs.Ytljejkdkjnbmhaa
open Go.RowKit
namespace SI
theorem srt_le {α : Type} {key : α → Int} {l : List α} (h : Srt key l) {i j : Nat} {u v : α} (hu : l[i]? = some u) (hv : l[j]? = some v) (hij : i ≤ j) : key u ≤ key v := by
  obtain ⟨h1, rfl⟩ := List.getElem?_eq_some_iff.1 hu
  obtain ⟨h2, rfl⟩ := List.getElem?_eq_some_iff.1 hv
  rcases Nat.lt_or_eq_of_le hij with h3 | h3
  · exact List.pairwise_iff_getElem.1 h i j h1 h2 h3
  · subst h3; exact Int.le_refl _
section
variable {w0 : World} {ps : List Piece} {ok : Int → Prop} {key : Int → Int} {B : Nat}
set_option maxRecDepth 100000 in
set_option maxHeartbeats 12800000 in
theorem sym_any {g c N : Nat} (hcmp : Cmps w0 ps B ok key) (hNb : N ≤ 1000000) : ∀ (f : Nat), SymAt w0 ps ok key B g c N f := by
  intro f
  induction f with
  | zero => intro w p x y q a m b hf _ _ _ _ _ _ _ h1 _ _ _; omega
  | succ f ih =>
  intro w p x y q a m b hf hokx hoky hsx hsy ha hm hb hx0 hy0 hN H
  by_cases hx1 : x.length = 1
  · obtain ⟨u, rfl⟩ := List.length_eq_one_iff.1 hx1
    exact symL_any hcmp (hokx u (by simp)) hoky hsy ha (by simpa using hm) hb hN hNb H
  by_cases hy1 : y.length = 1
  · obtain ⟨u, rfl⟩ := List.length_eq_one_iff.1 hy1
    exact symR_any hcmp (hoky u (by simp)) hokx hsx (by omega) ha hm (by simpa using hb) hN hNb H
  have hbN : b ≤ N := by rw [hN]; simp only [List.length_append]; omega
  have hNc : N ≤ c := by obtain ⟨_, _, e, h1, _⟩ := H.rd.shape; cases e; exact h1
  have hc2 : c ≤ 9223372036854775807 := by obtain ⟨_, _, e, _, h1⟩ := H.rd.shape; cases e; exact h1
  have hgx : ∀ (t : Nat) v, x[t]? = some v → (p ++ x ++ y ++ q)[a + t]? = some v := by
    intro t v hv
    have : p ++ x ++ y ++ q = p ++ (x ++ (y ++ q)) := by simp
    rw [this, List.getElem?_append_right (by omega), List.getElem?_append_left (by have := (List.getElem?_eq_some_iff.1 hv).1; omega)]
    rw [show a + t - p.length = t by omega]
    exact hv
  have hgy : ∀ (t : Nat) v, y[t]? = some v → (p ++ x ++ y ++ q)[m + t]? = some v := by
    intro t v hv
    have : p ++ x ++ y ++ q = (p ++ x) ++ (y ++ q) := by simp
    rw [this, List.getElem?_append_right (by rw [List.length_append]; omega), List.getElem?_append_left (by have := (List.getElem?_eq_some_iff.1 hv).1; rw [List.length_append]; omega)]
    rw [show m + t - (p ++ x).length = t by rw [List.length_append]; omega]
    exact hv
  have HGX := Lib.hid hgx
  have HGY := Lib.hid hgy
  have HP := Lib.hid ha
  have HM := Lib.hid hm
  have HB := Lib.hid hb
  have HN := Lib.hid hN
  have HC := Lib.hid hcmp
  have HOX := Lib.hid hokx
  have HOY := Lib.hid hoky
  have HSX := Lib.hid hsx
  have HSY := Lib.hid hsy
  have HF := Lib.hid hf
  have IH : Hid (SymAt w0 ps ok key B g c N f) := Lib.hid ih
  obtain ⟨L, hL⟩ : ∃ L, Hid (p ++ x ++ y ++ q = L) := ⟨_, Lib.hid rfl⟩
  rw [hL.out] at H HGX HGY
  have ham : a + 2 ≤ m := by omega
  have hmb : m + 2 ≤ b := by omega
  have hma : (((m : Int) - (a : Int)) == 1) = false := by simp; omega
  have hbm : (((b : Int) - (m : Int)) == 1) = false := by simp; omega
  obtain ⟨mid, hmid⟩ : ∃ h, Hid ((a + b) / 2 = h) := ⟨_, rfl⟩
  have hsI : (((a : Int) + (b : Int)) / 2) = (mid : Int) := by have := hmid.out; omega
  have hsU : IntKind.u64.wrap ((a : Int) + (b : Int)) = (a : Int) + (b : Int) := by simp [IntKind.wrap, IntKind.bits, IntKind.signed]; omega
  obtain ⟨n, hn⟩ : ∃ n, Hid (mid + m = n) := ⟨_, rfl⟩
  have hnI : ((mid : Int) + (m : Int)) = (n : Int) := by have := hn.out; omega
  have hmid2 : mid + mid ≤ a + b ∧ a + b ≤ mid + mid + 1 := by rw [← hmid.out]; omega
  have hmN : mid ≤ N ∧ n ≤ 2 * N := by have := hn.out; omega
  obtain ⟨hmN1, hmN2⟩ := hmN
  have hn1 : 1 ≤ n := by have := hn.out; omega
  have HMID2 := Lib.hid hmid2
  clear hmid2 ih hf hokx hoky hsx hsy ha hm hb hx0 hy0 hN hgx hgy hcmp hx1 hy1
  go_enter Try.func86, Try.ntmps86
  go_upto_if 140 with (fail)
  go_cut [20, 21] (fun s20 s21 wx => wx = w ∧ ∃ lo hi : Nat, s20 = .int .i64 lo ∧ s21 = .int .i64 hi ∧ Hid (a ≤ lo ∧ lo ≤ hi ∧ hi ≤ m ∧ (lo = a ∨ n = lo + b) ∧ (hi = m ∨ hi + m = n) ∧ (n ≤ lo + b ∧ m + hi ≤ n) ∧ ∀ c, lo ≤ c → c < hi → m + c + 1 ≤ n ∧ n ≤ b + c))
  case first =>
    have hm2 := HMID2.out
    have hn2 := hn.out
    by_cases hmm : mid < m
    · have hmmI : (mid : Int) < (m : Int) := by omega
      obtain ⟨lo, hlo⟩ : ∃ lo, n = lo + b := ⟨n - b, by omega⟩
      have hloI : ((n : Int) - (b : Int)) = (lo : Int) := by omega
      have hfacts : a ≤ lo ∧ lo ≤ mid ∧ mid ≤ m ∧ (lo = a ∨ n = lo + b) ∧ (mid = m ∨ mid + m = n) ∧ (n ≤ lo + b ∧ m + mid ≤ n) ∧ ∀ c, lo ≤ c → c < mid → m + c + 1 ≤ n ∧ n ≤ b + c := ⟨by omega, by omega, by omega, .inr hlo, .inr hn2, ⟨by omega, by omega⟩, fun c h1 h2 => ⟨by omega, by omega⟩⟩
      have HFA := Lib.hid hfacts
      clear hfacts hlo hn2 hm2
      go_wp2_with fail
      go_meet
      exact ⟨rfl, lo, mid, by go_num, rfl, HFA⟩
    · have hmmI : ¬ ((mid : Int) < (m : Int)) := by omega
      have hfacts : a ≤ a ∧ a ≤ m ∧ m ≤ m ∧ (a = a ∨ n = a + b) ∧ (m = m ∨ m + m = n) ∧ (n ≤ a + b ∧ m + m ≤ n) ∧ ∀ c, a ≤ c → c < m → m + c + 1 ≤ n ∧ n ≤ b + c := ⟨by omega, by omega, by omega, .inl rfl, .inl rfl, ⟨by omega, by omega⟩, fun c h1 h2 => ⟨by omega, by omega⟩⟩
      clear hfacts hn2 hm2
      go_wp2_with fail
      go_meet
      refine ⟨rfl, a, m, rfl, rfl, Lib.hid ?_⟩
      have hm2 := HMID2.out
      have hn2 := hn.out
      exact ⟨by omega, by omega, by omega, .inl rfl, .inl rfl, ⟨by omega, by omega⟩, fun c h1 h2 => ⟨by omega, by omega⟩⟩
  case rest =>
    obtain ⟨rfl, lo, hi, rfl, rfl, HFA⟩ := hcut
    obtain ⟨pp, hpp⟩ : ∃ pp, n = pp + 1 := ⟨n - 1, by omega⟩
    have hppI : ((n : Int) - 1) = (pp : Int) := by omega
    have HPP := Lib.hid hpp
    have hppN : pp ≤ 2 * N := by omega
    clear hpp
    go_upto_block 8 with (fail)
    go_cut [20] (fun s20 wx => ∃ s : Nat, s20 = .int .i64 s ∧ lo ≤ s ∧ s ≤ hi ∧ Hid (s = lo ∨ ∃ u v, x[s - 1 - a]? = some u ∧ y[n - s - m]? = some v ∧ key u ≤ key v) ∧ Hid (s = hi ∨ ∃ u v, x[s - a]? = some u ∧ y[n - 1 - s - m]? = some v ∧ key v < key u) ∧ Own w0 wx (slc 3 1 (.slice (some ⟨g, 0, none⟩) N c) N (rows ie L) :: ps))
    case first =>
      go_wp2_with fail
      go_loopw [20, 21] (fun s20 s21 wx => ∃ (s r : Nat), s20 = .int .i64 s ∧ s21 = .int .i64 r ∧ lo ≤ s ∧ s ≤ r ∧ r ≤ hi ∧ Hid (s = lo ∨ ∃ u v, x[s - 1 - a]? = some u ∧ y[n - s - m]? = some v ∧ key u ≤ key v) ∧ Hid (r = hi ∨ ∃ u v, x[r - a]? = some u ∧ y[n - 1 - r - m]? = some v ∧ key v < key u) ∧ Own w0 wx (slc 3 1 (.slice (some ⟨g, 0, none⟩) N c) N (rows ie L) :: ps)) (fun s20 s21 _ => (intOf s21).toNat - (intOf s20).toNat)
      case atStart => exact ⟨lo, hi, rfl, by go_num, Nat.le_refl _, HFA.out.2.1, Nat.le_refl _, Lib.hid (.inl rfl), Lib.hid (.inl rfl), H⟩
      case round =>
        clear H hppI
        obtain ⟨s, r, rfl, rfl, hls, hsr, hrh, hlo, hhi, H⟩ := hrel
        by_cases hlt : s < r
        · obtain ⟨h, hh⟩ : ∃ h, Hid ((s + r) / 2 = h) := ⟨_, rfl⟩
          have hsh : s ≤ h := by rw [← hh.out]; omega
          have hhr : h < r := by rw [← hh.out]; omega
          have hsI2 : (((s : Int) + (r : Int)) / 2) = (h : Int) := by have := hh.out; omega
          have hrm : r ≤ N := by have := HFA.out.2.2.1; omega
          have hsU2 : IntKind.u64.wrap ((s : Int) + (r : Int)) = (s : Int) + (r : Int) := by simp [IntKind.wrap, IntKind.bits, IntKind.signed]; omega
          obtain ⟨hf1, hf2⟩ := HFA.out.2.2.2.2.2.2 h (by omega) (by omega)
          obtain ⟨t, ht⟩ : ∃ t, h = a + t := ⟨h - a, by have := HFA.out.1; omega⟩
          obtain ⟨u, hu⟩ := get_of_lt (l := x) (k := t) (by have := HM.out; have := HFA.out.2.2.1; omega)
          obtain ⟨pc, hpc⟩ : ∃ pc, n = pc + 1 + h := ⟨n - 1 - h, by omega⟩
          obtain ⟨t2, ht2⟩ : ∃ t2, pc = m + t2 := ⟨pc - m, by omega⟩
          obtain ⟨v, hv⟩ := get_of_lt (l := y) (k := t2) (by have := HB.out; omega)
          have hg1 := HGX.out t u hu
          have hg2 := HGY.out t2 v hv
          rw [← ht] at hg1
          rw [← ht2] at hg2
          have HG1 := Lib.hid hg1
          have HG2 := Lib.hid hg2
          have hoku : ok u := HOX.out u (List.mem_of_getElem? hu)
          have hokv : ok v := HOY.out v (List.mem_of_getElem? hv)
          have hpcI : ((pp : Int) - (h : Int)) = (pc : Int) := by have := HPP.out; omega
          have hpcN : (pc : Int) < (N : Int) := by omega
          have hhN : (h : Int) < (N : Int) := by omega
          have hcall := fun (wz : World) (h : Own w0 wz (slc 3 1 (.slice (some ⟨g, 0, none⟩) N c) N (rows ie L) :: ps)) => HC.out wz _ h v u hokv hoku
          have hcl := cmpI_lt (key v) (key u)
          obtain ⟨cv, hcv⟩ : ∃ cv, Hid (cmpI (key v) (key u) = cv) := ⟨_, rfl⟩
          simp only [hcv.out] at hcall hcl
          have HCALL := Lib.hid hcall
          have hlo2 : ¬ key v < key u → Hid (h + 1 = lo ∨ ∃ u v, x[h + 1 - 1 - a]? = some u ∧ y[n - (h + 1) - m]? = some v ∧ key u ≤ key v) := fun hk => Lib.hid (.inr ⟨u, v, by rw [show h + 1 - 1 - a = t by omega]; exact hu, by rw [show n - (h + 1) - m = t2 by omega]; exact hv, by omega⟩)
          have hhi2 : key v < key u → Hid (h = hi ∨ ∃ u v, x[h - a]? = some u ∧ y[n - 1 - h - m]? = some v ∧ key v < key u) := fun hk => Lib.hid (.inr ⟨u, v, by rw [show h - a = t by omega]; exact hu, by rw [show n - 1 - h - m = t2 by omega]; exact hv, hk⟩)
          have HLO2 := Lib.hid hlo2
          have HHI2 := Lib.hid hhi2
          clear hlo2 hhi2 hg1 hg2 hu hv ht ht2 hcall hf1 hf2 hpc
          go_upto_region 35 with (fail)
          refine wp_region_calm (fun w1 => Own w0 w1 (slc 3 1 (.slice (some ⟨g, 0, none⟩) N c) N (rows ie L) :: ps)) 12 (by kernel_rfl) (by kernel_rfl) H.drew ?_
          simp only [List.take_succ_cons, List.take_zero, List.drop_succ_cons, List.drop_zero]
          have hpw : IntKind.i64.wrap (pc : Int) = (pc : Int) := IntWalk.i64_in _ ⟨by omega, by omega⟩
          repeat
            first
            | (refine calm_value (v := ?_) (by decide) rfl (fun σ w1 hS => ?_) ?_
               rotate_left
               · obtain ⟨c1, c1'⟩ := el hS.rd HG1.out; obtain ⟨c2, c2'⟩ := el hS.rd HG2.out
                 first | (go_simp; rfl) | rfl
               simp only [Act.put, List.setIfInBounds_toArray, List.set_cons_zero, List.set_cons_succ])
            | (refine calm_skip (by decide) rfl ?_
               simp only [Act.put, List.setIfInBounds_toArray, List.set_cons_zero, List.set_cons_succ])
          refine calm_call (v := .int .i64 cv) (by decide) rfl (fun w1 => (by go_simp; first | exact ⟨rfl, rfl⟩ | rfl)) (fun σ w1 hS => ?_) ?_
          · refine (HCALL.out w1 hS).mono ?_
            rintro e w2 ⟨_, rfl, rfl, h2⟩
            exact ⟨rfl, hS.join h2⟩
          simp only [Act.put, List.setIfInBounds_toArray, List.set_cons_zero, List.set_cons_succ]
          refine calm_nil ?_
          intro wd HD
          clear H
          by_cases hk : key v < key u
          · have hk2 : decide (cv < 0) = true := by rw [hcl]; simp [hk]
            have hn' := HHI2.out hk
            clear hk hcl HLO2
            go_wp2
            go_roundw
            case rel => exact ⟨s, h, rfl, by go_num, by omega, by omega, by omega, hlo, hn', HD⟩
            case measure => simp [intOf]; omega
          · have hk2 : decide (cv < 0) = false := by rw [hcl]; simp [hk]
            have hn' := HLO2.out hk
            clear hk hcl HHI2
            go_wp2
            go_roundw
            case rel => exact ⟨h + 1, r, by go_num, rfl, by omega, by omega, by omega, hn', hhi, HD⟩
            case measure => simp [intOf]; omega
        · have hsr2 : s = r := by omega
          subst hsr2
          clear hlt
          go_wp2
          go_meet
          exact ⟨s, rfl, hls, hrh, hlo, hhi, H⟩
    case rest =>
      clear H hppI
      obtain ⟨s, rfl, hls, hrh, hlo, hhi, H⟩ := hcut
      obtain ⟨q1, q2, q3, q4, q5, q7, q6⟩ := HFA.out
      have hm2 := HMID2.out
      have hn2 := hn.out
      have hMl := HM.out
      have hBl := HB.out
      obtain ⟨en, hen⟩ : ∃ en, n = en + s := ⟨n - s, by omega⟩
      have henb : en ≤ b := by omega
      have hmen : m ≤ en := by omega
      obtain ⟨X1, X2, hxs, hX1⟩ := split_at x (s - a) (by omega)
      obtain ⟨Y1, Y2, hys, hY1⟩ := split_at y (en - m) (by omega)
      have hX2l : s + X2.length = m := by rw [hxs, List.length_append] at hMl; omega
      have hY2l : en + Y2.length = b := by rw [hys, List.length_append] at hBl; omega
      have hA : ∀ d ∈ X2, ∀ e ∈ Y1, key e < key d := by
        intro d hd e he
        rcases hhi.out with h | ⟨u, v, hu, hv, huv⟩
        · rcases q5 with h2 | h2
          · have : X2 = [] := List.eq_nil_of_length_eq_zero (by omega)
            rw [this] at hd; simp at hd
          · have : Y1 = [] := List.eq_nil_of_length_eq_zero (by omega)
            rw [this] at he; simp at he
        · obtain ⟨i', hi', rfl⟩ := List.getElem_of_mem hd
          obtain ⟨j', hj', rfl⟩ := List.getElem_of_mem he
          have h1 : x[X1.length + i']? = some X2[i'] := by rw [hxs, List.getElem?_append_right (by omega), Nat.add_sub_cancel_left, List.getElem?_eq_getElem hi']
          have h2 : y[j']? = some Y1[j'] := by rw [hys, List.getElem?_append_left hj', List.getElem?_eq_getElem hj']
          have h3 := srt_le HSX.out hu h1 (by omega)
          have h4 := srt_le HSY.out h2 hv (by omega)
          omega
      have hB' : ∀ d ∈ X1, ∀ e ∈ Y2, key d ≤ key e := by
        intro d hd e he
        rcases hlo.out with h | ⟨u, v, hu, hv, huv⟩
        · rcases q4 with h2 | h2
          · have : X1 = [] := List.eq_nil_of_length_eq_zero (by omega)
            rw [this] at hd; simp at hd
          · have : Y2 = [] := List.eq_nil_of_length_eq_zero (by omega)
            rw [this] at he; simp at he
        · obtain ⟨i', hi', rfl⟩ := List.getElem_of_mem hd
          obtain ⟨j', hj', rfl⟩ := List.getElem_of_mem he
          have h1 : x[i']? = some X1[i'] := by rw [hxs, List.getElem?_append_left hi', List.getElem?_eq_getElem hi']
          have h2 : y[Y1.length + j']? = some Y2[j'] := by rw [hys, List.getElem?_append_right (by omega), Nat.add_sub_cancel_left, List.getElem?_eq_getElem hj']
          have h3 := srt_le HSX.out h1 hu (by omega)
          have h4 := srt_le HSY.out hv h2 (by omega)
          omega
      have hfinal : ∀ z1 z2, Mrg key X1 Y1 z1 → Mrg key X2 Y2 z2 → Mrg key x y (z1 ++ z2) := fun z1 z2 h1 h2 => by
        rw [hxs, hys]
        exact Mrg.two h1 h2 (by rw [← hxs]; exact HSX.out) (by rw [← hys]; exact HSY.out) hA hB'
      have HFINAL := Lib.hid hfinal
      have HOX1 : Hid (∀ v ∈ X1, ok v) := Lib.hid fun v hv => HOX.out v (by rw [hxs]; simp [hv])
      have HOX2 : Hid (∀ v ∈ X2, ok v) := Lib.hid fun v hv => HOX.out v (by rw [hxs]; simp [hv])
      have HOY1 : Hid (∀ v ∈ Y1, ok v) := Lib.hid fun v hv => HOY.out v (by rw [hys]; simp [hv])
      have HOY2 : Hid (∀ v ∈ Y2, ok v) := Lib.hid fun v hv => HOY.out v (by rw [hys]; simp [hv])
      have HSX1 : Hid (Srt key X1) := Lib.hid (by have := HSX.out; rw [hxs] at this; exact this.left)
      have HSX2 : Hid (Srt key X2) := Lib.hid (by have := HSX.out; rw [hxs] at this; exact this.right)
      have HSY1 : Hid (Srt key Y1) := Lib.hid (by have := HSY.out; rw [hys] at this; exact this.left)
      have HSY2 : Hid (Srt key Y2) := Lib.hid (by have := HSY.out; rw [hys] at this; exact this.right)
      have HL2 : Hid (L = p ++ X1 ++ X2 ++ Y1 ++ Y2 ++ q) := Lib.hid (by rw [← hL.out, hxs, hys]; simp)
      have HNL : Hid (N = (p ++ X1 ++ X2 ++ Y1 ++ Y2 ++ q).length) := Lib.hid (by rw [← HL2.out, ← hL.out]; exact HN.out)
      have hlens : Hid (a = p.length ∧ s = a + X1.length ∧ m = s + X2.length ∧ en = m + Y1.length ∧ b = en + Y2.length ∧ mid = s + Y1.length ∧ en = mid + X2.length ∧ X1.length + X2.length + (Y1.length + Y2.length) ≤ f + 1 ∧ 0 < X1.length + X2.length ∧ 0 < Y1.length + Y2.length) := Lib.hid (by
        have h1 := HP.out
        have h2 := HF.out
        rw [hxs, hys, List.length_append, List.length_append] at h2
        rw [hxs, List.length_append] at hMl
        rw [hys, List.length_append] at hBl
        refine ⟨h1, by omega, by omega, by omega, by omega, by omega, by omega, by omega, by omega, by omega⟩)
      have henI : ((n : Int) - (s : Int)) = (en : Int) := by omega
      have hensN : en ≤ N ∧ s ≤ N := ⟨by omega, by omega⟩
      obtain ⟨hensN1, hensN2⟩ := hensN
      have hsn : s ≤ n := by omega
      rw [HL2.out] at H
      clear q1 q2 q3 q4 q5 q6 q7 hm2 hn2 hMl hBl hen henb hmen hxs hys hX1 hY1 hX2l hY2l hA hB' hfinal hlo hhi hL hsI hnI
      apply_assumption
      exact tail_any (p := p) (q := q) (x := x) (y := y) (X1 := X1) (X2 := X2) (Y1 := Y1) (Y2 := Y2) (a := a) (m := m) (b := b) (s := s) (en := en) (mid := mid) (n := n) wc hNb IH HFINAL HOX1 HOX2 HOY1 HOY2 HSX1 HSX2 HSY1 HSY2 HNL HMID2 ham hmb hbN hlens hensN1 hensN2 hmN1 henI hsn hmN2 _ _ _ _ _ _ _ _ _ _ _ _ _ _ _ _ _ _ _ _ _ _ _ _ _ _ _ _ _ _ _ _ _ _ _ _ _ _ _ _ _ _ _ _ _ _ _ _ _ _ _ _ _ _ _ _ _ _ _ _ _ _ _ _ _ _ _ _ _ _ _ _ _ _ _ _ _ _ _ _ _ _ _ _ _ _ _ _ _ _ _ _ _ _ _ _ _ _ _ _ _ _ _ _ _ _ _ _ _ _ _ _ _ _ _ _ _ _ _ _ _ _ _ _ _ _ _ _ _ _ _ _ _ _ _ _ _ _ _ _ _ _ _ _ _ _ _ _ _ _ _ _ _ _ _ _ _ _ _ _ _ _ _ _ _ _ _ _ _ _ _ _ _ _ _ _ _ _ _ _ _ _ _ _ _ _ _ _ _ _ _ _ _ _ _ _ _ _ _ _ _ _ _ _ _ _ _ _ _ _ _ _ H
end
end SI
end Go.Proofs.Ytljejkdkjnbmhaa
/- Stable sorts, plainly: lists of sorted blocks. No program in sight. -/
namespace Go.Proofs.Ytljejkdkjnbmhaa

section
variable {α : Type} {key : α → Int}
/-- Sorted blocks, each of b. -/
inductive FullC (key : α → Int) (b : Nat) : List α → Prop
  | nil : FullC key b []
  | cons {x r : List α} : x.length = b → Srt key x → FullC key b r → FullC key b (x ++ r)
theorem FullC.snoc {b : Nat} {p x : List α} (h : FullC key b p) (hl : x.length = b) (hs : Srt key x) : FullC key b (p ++ x) := by
  induction h with
  | nil => have := FullC.cons hl hs (FullC.nil (key := key) (b := b)); simpa using this
  | cons h1 h2 _ ih => rw [List.append_assoc]; exact .cons h1 h2 ih
theorem FullC.len {b : Nat} {p : List α} (h : FullC key b p) : ∃ q, p.length = q * b := by
  induction h with
  | nil => exact ⟨0, by simp⟩
  | cons h1 _ _ ih => obtain ⟨q, hq⟩ := ih; exact ⟨q + 1, by rw [List.length_append, h1, hq, Nat.add_mul]; omega⟩
theorem FullC.front {b : Nat} {p : List α} (h : FullC key b p) (hp : 0 < p.length) : ∃ x r, p = x ++ r ∧ x.length = b ∧ Srt key x ∧ FullC key b r := by
  cases h with
  | nil => simp at hp
  | cons h1 h2 h3 => exact ⟨_, _, rfl, h1, h2, h3⟩
/-- Two blocks at the front. -/
theorem FullC.two {b : Nat} {p : List α} (h : FullC key b p) (hp : b < p.length) : ∃ x y r, p = x ++ y ++ r ∧ x.length = b ∧ y.length = b ∧ Srt key x ∧ Srt key y ∧ FullC key b r := by
  obtain ⟨x, r, rfl, h1, h2, h3⟩ := h.front (by omega)
  obtain ⟨y, r2, rfl, h4, h5, h6⟩ := h3.front (by rw [List.length_append] at hp; omega)
  exact ⟨x, y, r2, by simp, h1, h4, h2, h5, h6⟩
theorem FullC.one {b : Nat} {p : List α} (h : FullC key b p) (hp : p.length ≤ b) (hb : 0 < b) : p = [] ∨ p.length = b ∧ Srt key p := by
  rcases Nat.eq_zero_or_pos p.length with h0 | h0
  · exact .inl (List.eq_nil_of_length_eq_zero h0)
  · obtain ⟨x, r, rfl, h1, h2, h3⟩ := h.front h0
    rw [List.length_append] at hp
    have : r = [] := List.eq_nil_of_length_eq_zero (by omega)
    subst this
    exact .inr ⟨by simpa using h1, by simpa using h2⟩
end
end Go.Proofs.Ytljejkdkjnbmhaa
/- The stable sort of slices of ints: the walk of stable. (Written by tools/srt.py.) -/
namespace Go.Proofs.Ytljejkdkjnbmhaa
open Go.RowKit
namespace SI
section
variable {w0 w : World} {ps : List Piece} {ok : Int → Prop} {key : Int → Int} {B : Nat}
set_option maxRecDepth 100000 in
set_option maxHeartbeats 6400000 in
theorem stable_any {g c N : Nat} {l : List Int} (hcmp : Cmps w0 ps B ok key) (hok : ∀ x ∈ l, ok x) (hN : N = l.length) (hNb : N ≤ 1000000)
    (H : Own w0 w (slc 3 1 (.slice (some ⟨g, 0, none⟩) N c) N (rows ie l) :: ps)) :
    Calls Try.prog 80 #[.slice (some ⟨g, 0, none⟩) N c, .int .i64 N, cf B] w (Ret fun _ w' => Own w0 w' (slc 3 1 (.slice (some ⟨g, 0, none⟩) N c) N (rows ie (sortF key l)) :: ps)) := by
  have HN := Lib.hid hN
  have HC := Lib.hid hcmp
  have HOK := Lib.hid hok
  clear hN hcmp hok
  go_enter Try.func80, Try.ntmps80
  go_upto_block 0 with (fail)
  go_cut [7] (fun s7 wx => ∃ (a : Nat) (P R : List Int), s7 = .int .i64 a ∧ a ≤ N ∧ N < a + 20 ∧ Hid (P.length = a) ∧ Hid (StEq key l (P ++ R)) ∧ Hid (FullC key 20 P) ∧ Own w0 wx (slc 3 1 (.slice (some ⟨g, 0, none⟩) N c) N (rows ie (P ++ R)) :: ps))
  case first =>
    go_wp2_with fail
    go_loopw [7, 8] (fun s7 s8 wx => ∃ (a : Nat) (P R : List Int), s7 = .int .i64 a ∧ s8 = .int .i64 ((a : Int) + 20) ∧ a ≤ N ∧ Hid (P.length = a) ∧ Hid (StEq key l (P ++ R)) ∧ Hid (FullC key 20 P) ∧ Own w0 wx (slc 3 1 (.slice (some ⟨g, 0, none⟩) N c) N (rows ie (P ++ R)) :: ps)) (fun s7 _ _ => N - (intOf s7).toNat)
    case atStart => exact ⟨0, [], l, rfl, by go_num, by omega, Lib.hid rfl, Lib.hid (StEq.refl _), Lib.hid .nil, by simpa using H⟩
    case round =>
      clear H
      obtain ⟨a, P, R, rfl, rfl, ha, hP, hl, hF, H⟩ := hrel
      have hlen : Hid (P.length + R.length = N) := Lib.hid (by have := hl.out.length; rw [List.length_append] at this; have := HN.out; omega)
      by_cases hab : a + 20 ≤ N
      · obtain ⟨S, R2, hRs, hS⟩ := split_at R 20 (by have := hlen.out; have := hP.out; omega)
        subst hRs
        have e1 : P ++ (S ++ R2) = P ++ S ++ R2 := by simp
        rw [e1] at H
        obtain ⟨bn, hbn⟩ : ∃ bn, bn = a + 20 := ⟨_, rfl⟩
        have hbI : ((a : Int) + 20) = (bn : Int) := by omega
        have hbN : (bn : Int) ≤ (N : Int) := by omega
        have hNl : N = (P ++ S ++ R2).length := by rw [← e1, List.length_append]; exact hlen.out.symm
        have hi := insert_any (p := P) (s := S) (q := R2) (a := a) (b := bn) HC.out (fun v hv => HOK.out v (hl.out.symm.mem (by simp [hv]))) hP.out.symm (by omega) hNl hNb H
        have HI := Lib.hid hi
        have hbn2 : Hid (bn = a + 20) := Lib.hid hbn
        have hb20 : a + 20 ≤ bn := by omega
        have hbN2 : bn ≤ N := by omega
        have HS := Lib.hid hS
        clear hi hbn hNl e1 hab hlen hS
        go_wp2_with fail
        refine HI.out.mono ?_
        rintro e w3 ⟨_, rfl, s', hs', he', H3⟩
        have hsl : s'.length = 20 := by rw [← he'.length]; exact HS.out
        have hl2 : Hid (StEq key l ((P ++ s') ++ R2)) := Lib.hid (hl.out.trans (by
          have := ((StEq.refl (key := key) P).app he').app (StEq.refl R2)
          simpa using this))
        have hF2 : Hid (FullC key 20 (P ++ s')) := Lib.hid (hF.out.snoc hsl hs')
        have hP2 : Hid ((P ++ s').length = bn) := Lib.hid (by rw [List.length_append, hsl, hP.out]; exact hbn2.out.symm)
        clear HI H he' hs' hsl
        go_wp2
        go_roundw
        case rel => exact ⟨bn, P ++ s', R2, by go_num, by go_num, by omega, hP2, hl2, hF2, H3⟩
        case measure => simp [intOf]; omega
      · have hnb : ¬ ((a : Int) + 20 ≤ (N : Int)) := by omega
        go_wp2
        go_meet
        exact ⟨a, P, R, rfl, ha, by omega, hP, hl, hF, H⟩
  case rest =>
    clear H
    obtain ⟨a, P, R, rfl, ha, ha2, hP, hl, hF, H⟩ := hcut
    have hlen : Hid (P.length + R.length = N) := Lib.hid (by have := hl.out.length; rw [List.length_append] at this; have := HN.out; omega)
    have e1 : P ++ R = P ++ R ++ [] := by simp
    rw [e1] at H
    have hNl : N = (P ++ R ++ []).length := by rw [← e1, List.length_append]; exact hlen.out.symm
    have hi := insert_any (p := P) (s := R) (q := []) (a := a) (b := N) HC.out (fun v hv => HOK.out v (hl.out.symm.mem (by simp [hv]))) hP.out.symm (by have := hlen.out; have := hP.out; omega) hNl hNb H
    have HI := Lib.hid hi
    clear hi hNl e1
    go_upto_region 6 with (fail)
    go_wp2_with fail
    refine HI.out.mono ?_
    rintro e w3 ⟨_, rfl, R', hs', he', H3⟩
    have hRl : Hid (R'.length + a = N) := Lib.hid (by rw [← he'.length]; have := hlen.out; have := hP.out; omega)
    have hl2 : Hid (StEq key l (P ++ R')) := Lib.hid (hl.out.trans ((StEq.refl (key := key) P).app he'))
    rw [List.append_nil] at H3
    have HS' := Lib.hid hs'
    clear HI H he' hs' hlen hl
    go_wp2_with fail
    go_loopw [6] (fun s6 wx => ∃ (bs : Nat) (P R : List Int), s6 = .int .i64 bs ∧ 20 ≤ bs ∧ bs ≤ 2 * N + 20 ∧ Hid (StEq key l (P ++ R)) ∧ Hid (FullC key bs P) ∧ Hid (Srt key R) ∧ Hid (R.length < bs) ∧ Own w0 wx (slc 3 1 (.slice (some ⟨g, 0, none⟩) N c) N (rows ie (P ++ R)) :: ps)) (fun s6 _ => 2 * N + 21 - (intOf s6).toNat)
    case atStart => exact ⟨20, P, R', by go_num, by omega, by omega, hl2, hF, HS', Lib.hid (by have := hRl.out; omega), H3⟩
    case round =>
      clear H3 hl2 hF HS' hRl hP ha ha2
      obtain ⟨bs, P, R, rfl, hb1, hb2, hl, hF, hS, hRb, H⟩ := hrel
      have hlen : Hid (P.length + R.length = N) := Lib.hid (by have := hl.out.length; rw [List.length_append] at this; have := HN.out; omega)
      by_cases hbN : bs < N
      · have hbNI : (bs : Int) < (N : Int) := by omega
        obtain ⟨b2, hb2'⟩ : ∃ b2, b2 = 2 * bs := ⟨_, rfl⟩
        have hb2I : (2 * (bs : Int)) = (b2 : Int) := by omega
        have hb2J : ((bs : Int) * 2) = (b2 : Int) := by omega
        have HB2 := Lib.hid hb2'
        have hb2b : bs + bs ≤ b2 ∧ b2 ≤ bs + bs := ⟨by omega, by omega⟩
        obtain ⟨hb2b1, hb2b2⟩ := hb2b
        clear hb2'
        go_upto_block 4 with (fail)
        go_cut [7] (fun s7 wx => ∃ (a : Nat) (P2 P1 : List Int), s7 = .int .i64 a ∧ a ≤ N ∧ N < a + b2 ∧ Hid (P2.length = a) ∧ Hid (StEq key l (P2 ++ P1 ++ R)) ∧ Hid (FullC key b2 P2) ∧ Hid (FullC key bs P1) ∧ Own w0 wx (slc 3 1 (.slice (some ⟨g, 0, none⟩) N c) N (rows ie (P2 ++ P1 ++ R)) :: ps))
        case first =>
          go_wp2_with fail
          go_loopw [7, 8] (fun s7 s8 wx => ∃ (a : Nat) (P2 P1 : List Int), s7 = .int .i64 a ∧ s8 = .int .i64 ((a : Int) + b2) ∧ a ≤ N ∧ Hid (P2.length = a) ∧ Hid (StEq key l (P2 ++ P1 ++ R)) ∧ Hid (FullC key b2 P2) ∧ Hid (FullC key bs P1) ∧ Own w0 wx (slc 3 1 (.slice (some ⟨g, 0, none⟩) N c) N (rows ie (P2 ++ P1 ++ R)) :: ps)) (fun s7 _ _ => N - (intOf s7).toNat)
          case atStart => exact ⟨0, [], P, by go_num, by go_num, by omega, Lib.hid rfl, Lib.hid (by simpa using hl.out), Lib.hid .nil, hF, by simpa using H⟩
          case round =>
            clear H hl hF
            obtain ⟨a, P2, P1, rfl, rfl, ha, hP2, hl, hF2, hF1, H⟩ := hrel
            have hlen2 : Hid (P2.length + P1.length + R.length = N) := Lib.hid (by have := hl.out.length; rw [List.length_append, List.length_append] at this; have := HN.out; omega)
            by_cases hab : a + b2 ≤ N
            · obtain ⟨x, y, r, hP1, hx, hy, hsx, hsy, hFr⟩ := hF1.out.two (by have := hlen2.out; have := hP2.out; have := hRb.out; omega)
              subst hP1
              have e1 : P2 ++ (x ++ y ++ r) ++ R = P2 ++ x ++ y ++ (r ++ R) := by simp
              rw [e1] at H
              obtain ⟨mn, hmn⟩ : ∃ mn, mn = a + bs := ⟨_, rfl⟩
              obtain ⟨bn, hbn⟩ : ∃ bn, bn = a + b2 := ⟨_, rfl⟩
              have hmI : ((a : Int) + (bs : Int)) = (mn : Int) := by omega
              have hbI : ((a : Int) + (b2 : Int)) = (bn : Int) := by omega
              have hbnN : (bn : Int) ≤ (N : Int) := by omega
              have hNl : N = (P2 ++ x ++ y ++ (r ++ R)).length := by rw [← e1]; have := hl.out.length; rw [← this]; exact HN.out
              have hokx : ∀ v ∈ x, ok v := fun v hv => HOK.out v (hl.out.symm.mem (by simp [hv]))
              have hoky : ∀ v ∈ y, ok v := fun v hv => HOK.out v (hl.out.symm.mem (by simp [hv]))
              have hi := sym_any HC.out hNb (x.length + y.length) wr P2 x y (r ++ R) a mn bn (Nat.le_refl _) hokx hoky hsx hsy hP2.out.symm (by omega) (by omega) (by omega) (by omega) hNl H
              have HI := Lib.hid hi
              have HX := Lib.hid (And.intro hx hy)
              have HFr := Lib.hid hFr
              have hbn2 : Hid (bn = a + b2) := Lib.hid hbn
              have hbnN2 : bn ≤ N := by omega
              have habn : a + b2 ≤ bn := by omega
              clear hi hmn hbn hNl e1 hab hokx hoky hsx hsy hx hy hFr hlen2
              go_wp2_with fail
              refine HI.out.mono ?_
              rintro e w4 ⟨_, rfl, z, hz, H4⟩
              have hzl : z.length = b2 := by rw [← hz.2.length, List.length_append, HX.out.1, HX.out.2]; omega
              have hl3 : Hid (StEq key l ((P2 ++ z) ++ r ++ R)) := Lib.hid (hl.out.trans (by
                have := ((StEq.refl (key := key) P2).app hz.2).app (StEq.refl (r ++ R))
                simpa using this))
              have hF3 : Hid (FullC key b2 (P2 ++ z)) := Lib.hid (hF2.out.snoc hzl hz.1)
              have hP3 : Hid ((P2 ++ z).length = bn) := Lib.hid (by rw [List.length_append, hzl, hP2.out]; exact hbn2.out.symm)
              clear HI H hz hzl
              go_wp2
              go_roundw
              case rel => exact ⟨bn, P2 ++ z, r, by go_num, by go_num, by omega, hP3, hl3, hF3, HFr, by simpa using H4⟩
              case measure => simp [intOf]; omega
            · have hnb : ¬ ((a : Int) + (b2 : Int) ≤ (N : Int)) := by omega
              go_wp2
              go_meet
              exact ⟨a, P2, P1, rfl, ha, by omega, hP2, hl, hF2, hF1, H⟩
        case rest =>
          clear H hl hF
          obtain ⟨a, P2, P1, rfl, ha, hab, hP2, hl, hF2, hF1, H⟩ := hcut
          have hlen2 : Hid (P2.length + P1.length + R.length = N) := Lib.hid (by have := hl.out.length; rw [List.length_append, List.length_append] at this; have := HN.out; omega)
          obtain ⟨mn, hmn⟩ : ∃ mn, mn = a + bs := ⟨_, rfl⟩
          have hmI : ((a : Int) + (bs : Int)) = (mn : Int) := by omega
          have HMN := Lib.hid hmn
          have hmn2 : mn ≤ 4 * N + 40 := by omega
          clear hmn
          by_cases hmN : mn < N
          · have hmNI : (mn : Int) < (N : Int) := by omega
            obtain ⟨x, r, hP1, hx, hsx, hFr⟩ := hF1.out.front (by have := hlen2.out; have := hP2.out; have := hRb.out; have := HMN.out; omega)
            have hr0 : r = [] := by
              obtain ⟨q, hq⟩ := hFr.len
              have h1 := hlen2.out; have h2 := hP2.out
              rw [hP1, List.length_append] at h1
              rcases Nat.eq_zero_or_pos q with h | h
              · subst h; exact List.eq_nil_of_length_eq_zero (by omega)
              · have := Nat.mul_le_mul_right bs h; omega
            subst hr0
            rw [List.append_nil] at hP1
            subst hP1
            have e1 : P2 ++ P1 ++ R = P2 ++ P1 ++ R ++ [] := by simp
            rw [e1] at H
            have hNl : N = (P2 ++ P1 ++ R ++ []).length := by rw [← e1]; have := hl.out.length; rw [← this]; exact HN.out
            have hi := sym_any HC.out hNb (P1.length + R.length) wc P2 P1 R [] a mn N (Nat.le_refl _) (fun v hv => HOK.out v (hl.out.symm.mem (by simp [hv]))) (fun v hv => HOK.out v (hl.out.symm.mem (by simp [hv]))) hsx hS.out hP2.out.symm (by have := HMN.out; omega) (by have := hlen2.out; have := hP2.out; have := HMN.out; omega) (by omega) (by have := hlen2.out; have := hP2.out; have := HMN.out; omega) hNl H
            have HI := Lib.hid hi
            clear hi hNl e1 hsx hFr
            go_wp2_with fail
            refine HI.out.mono ?_
            rintro e w4 ⟨_, rfl, z, hz, H4⟩
            have hzl : Hid (z.length < b2) := Lib.hid (by rw [← hz.2.length, List.length_append, hx]; have := hRb.out; omega)
            have hl3 : Hid (StEq key l (P2 ++ z)) := Lib.hid (hl.out.trans (by
              have := (StEq.refl (key := key) P2).app hz.2
              simpa using this))
            have hzs : Hid (Srt key z) := Lib.hid hz.1
            rw [List.append_nil] at H4
            clear HI H hz hx
            go_wp2
            go_roundw
            case rel => exact ⟨b2, P2, z, by go_num, by omega, by omega, hl3, hF2, hzs, hzl, H4⟩
            case measure => simp [intOf]; omega
          · have hmNI : ¬ ((mn : Int) < (N : Int)) := by omega
            have hsrt : Hid (Srt key (P1 ++ R)) := Lib.hid (by
              rcases hF1.out.one (by have := hlen2.out; have := hP2.out; have := HMN.out; omega) (by omega) with h | ⟨h, hs⟩
              · rw [h]; exact hS.out
              · have : R = [] := List.eq_nil_of_length_eq_zero (by have := hlen2.out; have := hP2.out; have := HMN.out; omega)
                rw [this, List.append_nil]; exact hs)
            have hl3 : Hid (StEq key l (P2 ++ (P1 ++ R))) := Lib.hid (by simpa using hl.out)
            have hzl : Hid ((P1 ++ R).length < b2) := Lib.hid (by rw [List.length_append]; have := hlen2.out; have := hP2.out; omega)
            rw [List.append_assoc] at H
            clear hmN
            go_wp2
            go_roundw
            case rel => exact ⟨b2, P2, P1 ++ R, by go_num, by omega, by omega, hl3, hF2, hsrt, hzl, H⟩
            case measure => simp [intOf]; omega
      · have hsrt : Hid (P ++ R = sortF key l) := Lib.hid (by
          refine sortF_unique ?_ hl.out
          rcases hF.out.one (by have := hlen.out; omega) (by omega) with h | ⟨h, hs⟩
          · rw [h]; exact hS.out
          · have : R = [] := List.eq_nil_of_length_eq_zero (by have := hlen.out; omega)
            rw [this, List.append_nil]; exact hs)
        have hnb : ¬ ((bs : Int) < (N : Int)) := by omega
        clear hbN
        go_wp2
        go_end0
        exact ⟨_, rfl, by rw [← hsrt.out]; exact H⟩
end
end SI
end Go.Proofs.Ytljejkdkjnbmhaa
/- The stable sort of slices of coins: the walk of rotate. (Written by tools/srt.py.) -/
namespace Go.Proofs.Ytljejkdkjnbmhaa
open Go.RowKit
namespace SC
theorem split_at {α : Type} (l : List α) (n : Nat) (h : n ≤ l.length) : ∃ a b, l = a ++ b ∧ a.length = n := ⟨l.take n, l.drop n, (List.take_append_drop n l).symm, by simp; omega⟩
section
variable {w0 w : World} {ps : List Piece}
set_option maxRecDepth 100000 in
set_option maxHeartbeats 3200000 in
theorem rotate_any {g c N : Nat} {p x y q : List Coin} {a m b : Nat} (cmp : Value) (ha : a = p.length) (hm : m = a + x.length) (hb : b = m + y.length) (hx0 : 0 < x.length) (hy0 : 0 < y.length) (hN : N = (p ++ x ++ y ++ q).length) (hNb : N ≤ 1000000)
    (H : Own w0 w (slc 124 2 (.slice (some ⟨g, 0, none⟩) N c) N (rows ce (p ++ x ++ y ++ q)) :: ps)) :
    Calls Try.prog 92 #[.slice (some ⟨g, 0, none⟩) N c, .int .i64 a, .int .i64 m, .int .i64 b, cmp] w (Ret fun _ w' => Own w0 w' (slc 124 2 (.slice (some ⟨g, 0, none⟩) N c) N (rows ce (p ++ y ++ x ++ q)) :: ps)) := by
  obtain ⟨T, hT⟩ : ∃ T, Hid (T = p ++ y ++ x ++ q) := ⟨_, Lib.hid rfl⟩
  rw [← hT.out]
  have hbN : b ≤ N := by rw [hN]; simp only [List.length_append]; omega
  obtain ⟨i0, hi0⟩ : ∃ i, Hid (x.length = i) := ⟨_, rfl⟩
  obtain ⟨j0, hj0⟩ : ∃ j, Hid (y.length = j) := ⟨_, rfl⟩
  rw [hi0.out] at hx0 hm
  rw [hj0.out] at hy0 hb
  have hNn : Hid ((p ++ x ++ y ++ q).length = N) := Lib.hid hN.symm
  have HP := Lib.hid ha
  have ham : m = a + i0 := hm
  have hbm : b = m + j0 := hb
  clear ha hN
  go_enter Try.func92, Try.ntmps92
  have e1 : ((m : Int) - (a : Int)) = (i0 : Int) := by omega
  have e2 : ((b : Int) - (m : Int)) = (j0 : Int) := by omega
  have hst : a + i0 = m ∧ m + j0 ≤ N := ⟨by omega, by omega⟩
  have HST := Lib.hid hst
  have ham2 : a ≤ m := by omega
  have hmb2 : m ≤ b := by omega
  have hbN2 : b ≤ N := by omega
  clear ham hm hst hb hbN hbm
  go_upto_region 2 with (fail)
  go_loopw [10, 11] (fun s10 s11 wx => ∃ (i j pl : Nat) (X Y P Q : List Coin), s10 = .int .i64 i ∧ s11 = .int .i64 j ∧ 1 ≤ i ∧ 1 ≤ j ∧ pl + i = m ∧ m + j ≤ N ∧ Hid (X.length = i) ∧ Hid (Y.length = j) ∧ Hid (P.length = pl) ∧ Hid ((P ++ X ++ Y ++ Q).length = N) ∧ Hid (T = P ++ Y ++ X ++ Q) ∧ Own w0 wx (slc 124 2 (.slice (some ⟨g, 0, none⟩) N c) N (rows ce (P ++ X ++ Y ++ Q)) :: ps)) (fun s10 s11 _ => (intOf s10).toNat + (intOf s11).toNat)
  case atStart => exact ⟨i0, j0, a, x, y, p, q, by rw [← e1]; try go_num, by rw [← e2]; try go_num, by omega, by omega, HST.out.1, HST.out.2, hi0, hj0, Lib.hid HP.out.symm, hNn, hT, H⟩
  case round =>
    clear H hNn hT HP hi0 hj0 e1 e2
    obtain ⟨i, j, pl, X, Y, P, Q, rfl, rfl, hi, hj, hpl, hmj, hX, hY, hP, hLn, hT, H⟩ := hrel
    have em : ((m : Int) - (i : Int)) = (pl : Int) := by omega
    have hN1 : (m : Int) + (j : Int) ≤ (N : Int) := by omega
    rcases Nat.lt_trichotomy i j with hij | hij | hij
    · -- the first part is the shorter one
      obtain ⟨d, rfl⟩ : ∃ d, j = d + i := ⟨j - i, by omega⟩
      obtain ⟨bd, hbd⟩ : ∃ bd, bd = m + d := ⟨_, rfl⟩
      have eb : ((m : Int) + ((d + i : Nat) : Int) - (i : Int)) = (bd : Int) := by omega
      have eb' : ((m : Int) + ((d : Int) + (i : Int)) - (i : Int)) = (bd : Int) := by omega
      have ed : ((d : Int) + (i : Int) - (i : Int)) = (d : Int) := by omega
      obtain ⟨Y1, Y2, hYs, hY1⟩ := split_at Y d (by rw [hY.out]; omega)
      subst hYs
      have hY2 : Y2.length = i := by have := hY.out; rw [List.length_append] at this; omega
      have hne : ((i : Int) == ((d : Int) + (i : Int))) = false := by simp; omega
      have hng : ¬ ((d : Int) + (i : Int) < (i : Int)) := by omega
      have el1 : P ++ X ++ (Y1 ++ Y2) ++ Q = P ++ X ++ Y1 ++ Y2 ++ Q := by simp
      rw [el1] at H
      have hLn' : N = (P ++ X ++ Y1 ++ Y2 ++ Q).length := by rw [← el1]; exact hLn.out.symm
      have hNb' : N ≤ 1000000 := hNb
      have hsw := swap_any (w0 := w0) (w := wr) (ps := ps) (g := g) (c := c) (N := N) (p := P) (x := X) (m := Y1) (y := Y2) (q := Q) (a := pl) (b := bd) (n := i) cmp (by rw [hP.out]) (by rw [hX.out, hY1, hbd]; omega) (by rw [hX.out]) (by rw [hY2, hX.out]) hLn' hNb H
      have HSW := Lib.hid hsw
      have el2 : P ++ Y2 ++ Y1 ++ X ++ Q = P ++ Y2 ++ Y1 ++ (X ++ Q) := by simp
      have hT' : Hid (T = P ++ Y1 ++ Y2 ++ (X ++ Q)) := Lib.hid (by rw [hT.out]; simp)
      have hX' : Hid (Y2.length = i) := Lib.hid hY2
      have hY' : Hid (Y1.length = d) := Lib.hid hY1
      have hLn2 : Hid ((P ++ Y2 ++ Y1 ++ (X ++ Q)).length = N) := Lib.hid (by rw [hLn']; simp only [List.length_append]; omega)
      rw [el2] at HSW
      clear hsw el1 el2 hLn' hY1 hY2 hT hX hY hLn hbd
      go_wp2_with fail
      refine HSW.out.mono ?_
      rintro e w3 ⟨_, rfl, H3⟩
      clear HSW H
      go_wp2
      go_roundw
      case rel => exact ⟨i, d, pl, Y2, Y1, P, X ++ Q, rfl, by go_num, by omega, by omega, hpl, by omega, hX', hY', hP, hLn2, hT', H3⟩
      case measure => simp [intOf]; omega
    · subst hij
      have hLn' : N = (P ++ X ++ [] ++ Y ++ Q).length := by have := hLn.out; rw [← this]; simp
      have H' : Own w0 wr (slc 124 2 (.slice (some ⟨g, 0, none⟩) N c) N (rows ce (P ++ X ++ [] ++ Y ++ Q)) :: ps) := by simpa using H
      have hsw := swap_any (w0 := w0) (w := wr) (ps := ps) (g := g) (c := c) (N := N) (p := P) (x := X) (m := []) (y := Y) (q := Q) (a := pl) (b := m) (n := i) cmp (by rw [hP.out]) (by rw [hX.out]; simp; omega) (by rw [hX.out]) (by rw [hY.out, hX.out]) hLn' hNb H'
      have HSW := Lib.hid hsw
      clear hsw H' hLn'
      go_wp2_with fail
      refine HSW.out.mono ?_
      rintro e w3 ⟨_, rfl, H3⟩
      clear HSW H
      go_wp2
      go_end0
      exact ⟨_, rfl, by rw [hT.out]; simpa using H3⟩
    · obtain ⟨d, rfl⟩ : ∃ d, i = j + d := ⟨i - j, by omega⟩
      obtain ⟨X1, X2, hXs, hX1⟩ := split_at X j (by rw [hX.out]; omega)
      subst hXs
      have hX2 : X2.length = d := by have := hX.out; rw [List.length_append] at this; omega
      have em' : ((m : Int) - ((j : Int) + (d : Int))) = (pl : Int) := by omega
      have ed : ((j : Int) + (d : Int) - (j : Int)) = (d : Int) := by omega
      have hne : (((j : Int) + (d : Int)) == (j : Int)) = false := by simp; omega
      have hng : ((j : Int) < (j : Int) + (d : Int)) := by omega
      have el1 : P ++ (X1 ++ X2) ++ Y ++ Q = P ++ X1 ++ X2 ++ Y ++ Q := by simp
      rw [el1] at H
      have hLn' : N = (P ++ X1 ++ X2 ++ Y ++ Q).length := by rw [← el1]; exact hLn.out.symm
      have hsw := swap_any (w0 := w0) (w := wr) (ps := ps) (g := g) (c := c) (N := N) (p := P) (x := X1) (m := X2) (y := Y) (q := Q) (a := pl) (b := m) (n := j) cmp (by rw [hP.out]) (by rw [hX1, hX2]; omega) (by rw [hX1]) (by rw [hY.out, hX1]) hLn' hNb H
      have HSW := Lib.hid hsw
      have el2 : P ++ Y ++ X2 ++ X1 ++ Q = (P ++ Y) ++ X2 ++ X1 ++ Q := by simp
      have hT' : Hid (T = (P ++ Y) ++ X1 ++ X2 ++ Q) := Lib.hid (by rw [hT.out]; simp)
      have hX' : Hid (X2.length = d) := Lib.hid hX2
      have hY' : Hid (X1.length = j) := Lib.hid hX1
      have hP' : Hid ((P ++ Y).length = pl + j) := Lib.hid (by rw [List.length_append, hP.out, hY.out])
      have hLn2 : Hid (((P ++ Y) ++ X2 ++ X1 ++ Q).length = N) := Lib.hid (by rw [hLn']; simp only [List.length_append]; omega)
      clear hsw el1 el2 hLn' hX1 hX2 hT hX hY hLn hP
      go_wp2_with fail
      refine HSW.out.mono ?_
      rintro e w3 ⟨_, rfl, H3⟩
      clear HSW H
      go_wp2
      go_roundw
      case rel => exact ⟨d, j, pl + j, X2, X1, P ++ Y, Q, by go_num, rfl, by omega, by omega, by omega, by omega, hX', hY', hP', hLn2, hT', H3⟩
      case measure => simp [intOf]; omega
end
end SC
end Go.Proofs.Ytljejkdkjnbmhaa
/- The stable sort of slices of coins: the walk of insertionSort. (Written by tools/srt.py.) -/
namespace Go.Proofs.Ytljejkdkjnbmhaa
open Go.RowKit
namespace SC
/-- The function that compares. -/
abbrev cf (_B : Nat) : Value := .func (.func 84) #[] #[]
abbrev ca (_B : Nat) (x y : Coin) : Array Value := #[cval x, cval y]
abbrev cg : Nat := 84
/-- What is asked of it. -/
def Cmps (w0 : World) (ps : List Piece) (B : Nat) (ok : Coin → Prop) (key : Coin → Int) : Prop :=
  ∀ (wz : World) (row : Piece), Own w0 wz (row :: ps) → ∀ x y, ok x → ok y → Calls Try.prog cg (ca B x y) wz (Ret fun v w' => v = .int .i64 (cmpI (key x) (key y)) ∧ Own wz w' [])
section
variable {w0 w : World} {ps : List Piece} {ok : Coin → Prop} {key : Coin → Int} {B : Nat}
set_option maxRecDepth 100000 in
set_option maxHeartbeats 3200000 in
theorem insert_any {g c N : Nat} {p s q : List Coin} {a b : Nat} (hcmp : Cmps w0 ps B ok key) (hok : ∀ x ∈ s, ok x) (ha : a = p.length) (hb : b = a + s.length) (hN : N = (p ++ s ++ q).length) (hNb : N ≤ 1000000)
    (H : Own w0 w (slc 124 2 (.slice (some ⟨g, 0, none⟩) N c) N (rows ce (p ++ s ++ q)) :: ps)) :
    Calls Try.prog 89 #[.slice (some ⟨g, 0, none⟩) N c, .int .i64 a, .int .i64 b, cf B] w (Ret fun _ w' => ∃ s', Srt key s' ∧ StEq key s s' ∧ Own w0 w' (slc 124 2 (.slice (some ⟨g, 0, none⟩) N c) N (rows ce (p ++ s' ++ q)) :: ps)) := by
  have hbN : b ≤ N := by rw [hN]; simp only [List.length_append]; omega
  have hNc : N ≤ c := by obtain ⟨_, _, e, h1, _⟩ := H.rd.shape; cases e; exact h1
  have hc2 : c ≤ 9223372036854775807 := by obtain ⟨_, _, e, _, h1⟩ := H.rd.shape; cases e; exact h1
  have HP := Lib.hid ha
  have HB := Lib.hid hb
  have HN := Lib.hid hN
  have HC := Lib.hid hcmp
  have HOK := Lib.hid hok
  have hab : a ≤ b := by omega
  clear ha hb hN hcmp hok
  go_enter Try.func89, Try.ntmps89
  by_cases hs0 : s.length = 0
  · have hs : s = [] := List.eq_nil_of_length_eq_zero hs0
    have hba : Hid (b = a) := Lib.hid (by rw [HB.out, hs0]; rfl)
    have hlt : ¬ ((a : Int) + 1 < (b : Int)) := by rw [hba.out]; omega
    subst hs
    clear hs0
    go_wp2_with fail
    go_loop [8] (fun s8 => s8 = .int .i64 ((a : Int) + 1)) (fun _ => 0)
    case atStart => go_num
    case round =>
      obtain rfl := hrel
      go_wp2
      go_end0
      exact ⟨_, rfl, [], List.Pairwise.nil, StEq.refl _, by simpa using H⟩
  · have hs1 : a + 1 ≤ b := by have := HB.out; omega
    go_wp2_with fail
    go_loopw [8] (fun s8 wx => ∃ (i : Nat) (S1 S2 U : List Coin), a + 1 ≤ i ∧ i ≤ b ∧ s8 = .int .i64 i ∧ Hid (s = S1 ++ S2) ∧ Hid (a + S1.length = i) ∧ Hid (Srt key U) ∧ Hid (StEq key S1 U) ∧ Own w0 wx (slc 124 2 (.slice (some ⟨g, 0, none⟩) N c) N (rows ce (p ++ U ++ S2 ++ q)) :: ps)) (fun s8 _ => b - (intOf s8).toNat)
    case atStart =>
      obtain ⟨x, s2, hs⟩ : ∃ x s2, s = x :: s2 := by
        cases s with
        | nil => simp at hs0
        | cons x s2 => exact ⟨x, s2, rfl⟩
      exact ⟨a + 1, [x], s2, [x], by omega, hs1, by go_num, Lib.hid (by rw [hs]; rfl), Lib.hid rfl, Lib.hid (List.pairwise_singleton ..), Lib.hid (StEq.refl _), by rw [hs] at H; simpa using H⟩
    case round =>
      clear H hs0
      obtain ⟨i, S1, S2, U, hi1, hi2, rfl, hs, hl, hU, hSU, H⟩ := hrel
      by_cases hib : i < b
      · obtain ⟨x, S3, hS2⟩ : ∃ x S3, S2 = x :: S3 := by
          cases S2 with
          | nil => exfalso; have h1 := HB.out; have h2 := hl.out; rw [hs.out] at h1; simp at h1; omega
          | cons x S3 => exact ⟨x, S3, rfl⟩
        subst hS2
        have hokx : ok x := HOK.out x (by rw [hs.out]; simp)
        have hokU : Hid (∀ u ∈ U, ok u) := Lib.hid fun u hu => HOK.out u (by rw [hs.out]; exact List.mem_append.2 (.inl (hSU.out.symm.mem hu)))
        have hUl : Hid (a + U.length = i) := Lib.hid (by rw [← hSU.out.length]; exact hl.out)
        have hibI : (i : Int) < (b : Int) := by omega
        go_upto_block 1 with (fail)
        go_cut [] (fun wx => ∃ U', Hid (Srt key U') ∧ Hid (StEq key (S1 ++ [x]) U') ∧ Own w0 wx (slc 124 2 (.slice (some ⟨g, 0, none⟩) N c) N (rows ce (p ++ U' ++ S3 ++ q)) :: ps))
        case first =>
          go_wp2_with fail
          go_loopw [9] (fun s9 wx => ∃ (j : Nat) (U1 U2 : List Coin), a ≤ j ∧ j ≤ i ∧ s9 = .int .i64 j ∧ Hid (U = U1 ++ U2) ∧ Hid (a + U1.length = j) ∧ Hid (∀ u ∈ U2, key x < key u) ∧ Own w0 wx (slc 124 2 (.slice (some ⟨g, 0, none⟩) N c) N (rows ce (p ++ U1 ++ x :: (U2 ++ S3 ++ q))) :: ps)) (fun s9 _ => (intOf s9).toNat)
          case atStart => exact ⟨i, U, [], by omega, by omega, rfl, Lib.hid (by simp), hUl, Lib.hid (by simp), by simpa using H⟩
          case round =>
            clear H
            obtain ⟨j, U1, U2, hj1, hj2, rfl, hU12, hU1, hgt, H⟩ := hrel
            have hfin : ∀ wz, (∀ u ∈ U1, key u ≤ key x) → Own w0 wz (slc 124 2 (.slice (some ⟨g, 0, none⟩) N c) N (rows ce (p ++ U1 ++ x :: (U2 ++ S3 ++ q))) :: ps) → ∃ U', Hid (Srt key U') ∧ Hid (StEq key (S1 ++ [x]) U') ∧ Own w0 wz (slc 124 2 (.slice (some ⟨g, 0, none⟩) N c) N (rows ce (p ++ U' ++ S3 ++ q)) :: ps) := by
              intro wz hle h
              have hs' : Srt key (U1 ++ U2) := by rw [← hU12.out]; exact hU.out
              have hm := Mrg.one_right (y := x) hs' hle hgt.out
              refine ⟨U1 ++ x :: U2, Lib.hid hm.1, Lib.hid (StEq.trans ((hSU.out.app (StEq.refl [x]))) (by rw [hU12.out]; exact hm.2)), ?_⟩
              simpa using h
            have HFIN := Lib.hid hfin
            clear hfin
            by_cases hja : a < j
            · obtain ⟨U3, u, hU3⟩ := last_split U1 (by have := hU1.out; omega)
              subst hU3
              have hjl : j = (p ++ U3).length + 1 := by
                have h1 := hU1.out
                have h2 := HP.out
                rw [List.length_append, List.length_singleton] at h1
                rw [List.length_append]
                omega
              have el1 : p ++ (U3 ++ [u]) ++ x :: (U2 ++ S3 ++ q) = (p ++ U3) ++ u :: ([] ++ x :: (U2 ++ S3 ++ q)) := by simp
              rw [el1] at H HFIN
              have hg1 : ((p ++ U3) ++ u :: ([] ++ x :: (U2 ++ S3 ++ q)))[j - 1]? = some u := get_mid _ _ _ (by omega)
              have hg2 : ((p ++ U3) ++ u :: ([] ++ x :: (U2 ++ S3 ++ q)))[j]? = some x := by
                have : (p ++ U3) ++ u :: ([] ++ x :: (U2 ++ S3 ++ q)) = ((p ++ U3) ++ [u]) ++ x :: (U2 ++ S3 ++ q) := by simp
                rw [this]
                exact get_mid _ _ _ (by simp only [List.length_append, List.length_cons, List.length_nil] at hjl ⊢; omega)
              have hLn : ((p ++ U3) ++ u :: ([] ++ x :: (U2 ++ S3 ++ q))).length = N := by
                have h1 := HN.out
                have h2 := hUl.out
                have h3 := hU12.out
                have h4 := hl.out
                rw [hs.out] at h1
                rw [h3] at h2
                simp only [List.length_append, List.length_cons, List.length_nil] at h1 h2 ⊢
                omega
              obtain ⟨j', rfl⟩ : ∃ j', j = j' + 1 := ⟨j - 1, by omega⟩
              have hsw := set_swap (p ++ U3) [] (U2 ++ S3 ++ q) u x (i := j') (j := j' + 1) (by omega) (by simp only [List.length_nil]; omega)
              rw [Nat.add_sub_cancel] at hg1
              obtain ⟨L, hL⟩ : ∃ L, Hid ((p ++ U3) ++ u :: ([] ++ x :: (U2 ++ S3 ++ q)) = L) := ⟨_, Lib.hid rfl⟩
              rw [hL.out] at H hg1 hg2 hsw hLn HFIN
              have HG1 := Lib.hid hg1
              have HG2 := Lib.hid hg2
              have e1 : (rows ce L).take ((j' + 1) * 2) ++ ce u ++ (rows ce L).drop ((j' + 1) * 2 + 2) = rows ce (L.set (j' + 1) u) := set_rows (by rw [hLn]; omega) u
              have e2 : (rows ce (L.set (j' + 1) u)).take (j' * 2) ++ ce x ++ (rows ce (L.set (j' + 1) u)).drop (j' * 2 + 2) = rows ce (p ++ U3 ++ x :: ((u :: U2) ++ S3 ++ q)) := by
                rw [set_rows (by rw [List.length_set, hLn]; omega) x, List.set_comm _ _ (by omega), hsw]
                simp
              have E1 := Lib.hid e1
              have E2 := Lib.hid e2
              have hU3l : Hid (a + U3.length = j') := Lib.hid (by have := HP.out; simp only [List.length_append] at hjl; omega)
              have hoku : ok u := hokU.out u (by rw [hU12.out]; simp)
              have hcall := fun (wz : World) (h : Own w0 wz (slc 124 2 (.slice (some ⟨g, 0, none⟩) N c) N (rows ce L) :: ps)) => HC.out wz _ h x u hokx hoku
              have hcl := cmpI_lt (key x) (key u)
              obtain ⟨cv, hcv⟩ : ∃ cv, Hid (cmpI (key x) (key u) = cv) := ⟨_, rfl⟩
              simp only [hcv.out] at hcall hcl
              have HCALL := Lib.hid hcall
              have hj1' : a ≤ j' := by omega
              have hjaI : (a : Int) < (j' : Int) + 1 := by omega
              have hjN : (j' : Int) + 1 < (N : Int) := by omega
              have hjT : ((j' : Int) + 1).toNat = j' + 1 := by omega
              have hjw : IntKind.i64.wrap (j' : Int) = (j' : Int) := IntWalk.i64_in _ ⟨by omega, by omega⟩
              have hjN0 : (j' : Int) < (N : Int) := by omega
              have hj0 : (0 : Int) ≤ (j' : Int) := by omega
              have hjs : ((j' : Int) + 1 - 1) = (j' : Int) := by omega
              clear hg1 hg2 hsw hLn e1 e2 el1 hjl hL hcall hja hU1 hj1
              go_upto_region 4 with (fail)
              refine wp_region_calm (fun w1 => Own w0 w1 (slc 124 2 (.slice (some ⟨g, 0, none⟩) N c) N (rows ce L) :: ps)) 16 (by kernel_rfl) (by kernel_rfl) H.drew ?_
              simp only [List.take_succ_cons, List.take_zero, List.drop_succ_cons, List.drop_zero]
              repeat
                first
                | (refine calm_value (v := ?_) (by decide) rfl (fun σ w1 hS => ?_) ?_
                   rotate_left
                   · obtain ⟨c1, c1'⟩ := el hS.rd HG1.out; obtain ⟨c2, c2'⟩ := el hS.rd HG2.out
                     first | (go_simp; rfl) | rfl
                   simp only [Act.put, List.setIfInBounds_toArray, List.set_cons_zero, List.set_cons_succ])
                | (refine calm_skip (by decide) rfl ?_
                   simp only [Act.put, List.setIfInBounds_toArray, List.set_cons_zero, List.set_cons_succ])
              refine calm_call (v := .int .i64 cv) (by decide) rfl (fun w1 => (by go_simp; first | exact ⟨rfl, rfl⟩ | rfl)) (fun σ w1 hS => ?_) ?_
              · refine (HCALL.out w1 hS).mono ?_
                rintro e w2 ⟨_, rfl, rfl, h2⟩
                exact ⟨rfl, hS.join h2⟩
              simp only [Act.put, List.setIfInBounds_toArray, List.set_cons_zero, List.set_cons_succ]
              repeat
                first
                | (refine calm_value (v := ?_) (by decide) rfl (fun σ w1 hS => ?_) ?_
                   rotate_left
                   · skip
                     first | (go_simp; rfl) | rfl
                   simp only [Act.put, List.setIfInBounds_toArray, List.set_cons_zero, List.set_cons_succ])
                | (refine calm_skip (by decide) rfl ?_
                   simp only [Act.put, List.setIfInBounds_toArray, List.set_cons_zero, List.set_cons_succ])
              refine calm_nil ?_
              intro wd HD
              clear H
              by_cases hxu : key x < key u
              · have hxu2 : decide (key x < key u) = true := by simp [hxu]
                have hgt2 : Hid (∀ v ∈ u :: U2, key x < key v) := Lib.hid fun v hv => by
                  rcases List.mem_cons.1 hv with rfl | hv
                  · exact hxu
                  · exact hgt.out v hv
                have hU' : Hid (U = U3 ++ (u :: U2)) := Lib.hid (by rw [hU12.out]; simp)
                rw [hxu2]
                clear hxu hxu2 HFIN hcl
                go_upto_region 6 with (fail)
                refine wp_region_pres (fun _ w1 => Own w0 w1 (slc 124 2 (.slice (some ⟨g, 0, none⟩) N c) N (rows ce L) :: ps)) 14 [] [2, 3, 4] (by kernel_rfl) (by kernel_rfl) (by kernel_rfl) (by kernel_rfl) (fun _ _ d _ _ h => by cases d <;> exact h) ⟨_, _, rfl, fun w => (by first | rfl | (go_simp; rfl)), _, _, rfl, fun w => (by first | rfl | (go_simp; rfl)), _, _, rfl, fun w => (by first | rfl | (go_simp; rfl)), rfl⟩ HD.drew ?_
                simp only [List.take_succ_cons, List.take_zero, List.drop_succ_cons, List.drop_zero]
                repeat
                  first
                  | (refine calm_value (v := ?_) (by decide) rfl (fun σ w1 hS => ?_) ?_
                     rotate_left
                     · obtain ⟨c1, c1'⟩ := el hS.rd HG1.out; obtain ⟨c2, c2'⟩ := el hS.rd HG2.out
                       first | (go_simp; rfl) | rfl
                     simp only [Act.put, List.setIfInBounds_toArray, List.set_cons_zero, List.set_cons_succ])
                  | (refine calm_skip (by decide) rfl ?_
                     simp only [Act.put, List.setIfInBounds_toArray, List.set_cons_zero, List.set_cons_succ])
                refine calm_nil ?_
                intro σ2 wd2 _ H2
                simp only [putNew, List.foldl_nil]
                clear HD
                go_wp2_with (first
                  | (refine wpList_store_elem rfl _ _ rfl (i := j' + 1) (by first | rfl | (rw [Nat.mul_one]; rfl)) H2 (ce u) rfl (by kernel_rfl) rfl (by omega) (e_one u) ?_; clear H2; intro w5 H; rw [E1.out] at H)
                  | (refine wpList_store_elem rfl _ _ rfl (i := j') (by first | rfl | (rw [Nat.mul_one]; rfl)) H (ce x) rfl (by kernel_rfl) rfl (by omega) (e_one x) ?_; clear H; intro w6 H; rw [E2.out] at H))
                go_roundw
                case rel => exact ⟨j', U3, u :: U2, hj1', by omega, by go_num, hU', hU3l, hgt2, H⟩
                case measure => simp [intOf]
              · have hxu2 : decide (key x < key u) = false := by simp [hxu]
                rw [hxu2]
                have hle : Hid (∀ v ∈ U3 ++ [u], key v ≤ key x) := Lib.hid fun v hv => by
                  have hs' : Srt key ((U3 ++ [u]) ++ U2) := by rw [← hU12.out]; exact hU.out
                  rcases List.mem_append.1 hv with hv | hv
                  · have := (hs'.left).across v hv u (by simp); omega
                  · simp at hv; subst hv; omega
                clear hxu hxu2 hcl
                go_wp2
                go_meet
                exact HFIN.out _ hle.out HD
            · have hja2 : j = a := by omega
              have hU10 : U1 = [] := by have := hU1.out; exact List.eq_nil_of_length_eq_zero (by omega)
              subst hja2
              clear hja
              go_upto_region 4 with (fail)
              refine wp_region_calm (fun w1 => Own w0 w1 (slc 124 2 (.slice (some ⟨g, 0, none⟩) N c) N (rows ce (p ++ U1 ++ x :: (U2 ++ S3 ++ q))) :: ps)) 16 (by kernel_rfl) (by kernel_rfl) H.drew ?_
              simp only [List.take_succ_cons, List.take_zero, List.drop_succ_cons, List.drop_zero]
              repeat
                first
                | (refine calm_value (v := ?_) (by decide) rfl (fun σ w1 hS => ?_) ?_
                   rotate_left
                   · skip
                     first | (go_simp; rfl) | rfl
                   simp only [Act.put, List.setIfInBounds_toArray, List.set_cons_zero, List.set_cons_succ])
                | (refine calm_skip (by decide) rfl ?_
                   simp only [Act.put, List.setIfInBounds_toArray, List.set_cons_zero, List.set_cons_succ])
              refine calm_nil ?_
              intro wd HD
              clear H
              go_wp2
              go_meet
              exact HFIN.out _ (by rw [hU10]; simp) HD
        case rest =>
          clear H
          obtain ⟨U', hs', he', H⟩ := hcut
          go_wp2
          go_roundw
          case rel => exact ⟨i + 1, S1 ++ [x], S3, U', by omega, by omega, by go_num, Lib.hid (by rw [hs.out]; simp), Lib.hid (by rw [List.length_append, ← Nat.add_assoc, hl.out]; rfl), hs', he', H⟩
          case measure => simp [intOf]; omega
      · have hib2 : i = b := by omega
        subst hib2
        have hS20 : S2 = [] := by
          have h1 := HB.out; have h2 := hl.out
          rw [hs.out, List.length_append] at h1
          exact List.eq_nil_of_length_eq_zero (by omega)
        have hs1' : s = S1 := by rw [hs.out, hS20, List.append_nil]
        rw [hS20, List.append_nil] at H
        have HE := Lib.hid hs1'
        clear hS20 hs1'
        go_wp2
        go_end0
        exact ⟨_, rfl, U, hU.out, by rw [HE.out]; exact hSU.out, H⟩
end
end SC
end Go.Proofs.Ytljejkdkjnbmhaa
