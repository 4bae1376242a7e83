/-
  Texts of this claim, one behind the other: flate; flate; flate; slices.Repeat; copy into a row of the call's own; slices.Repeat of one int; slices.Grow of nil, slices.Concat; The stable sort of slices of ints; The stable sort of slices of ints; The stable sort of slices of ints; The stable sort of slices of ints; The stable sort of slices of ints; The stable sort of slices of ints.
-/
import Derived.Test.YtpbodonmiepilaaSm2
import Derived.Deep.OwnRows
import Derived.RegionTactic
import Derived.Laws.CopyOwn
import Derived.Lib.AppendZeros
import Derived.Carry
import Derived.Deep.DeepCutAuto
import Derived.Deep.CutBlock
import Derived.Deep.LoopGhost
import Derived.WalkLawsBesides
import Derived.WalkSpells
import Derived.BigQuiet
import Derived.Deep.QuietTactic
import Derived.Test.YtpbodonmiepilaaRows
set_option linter.unusedVariables false
/- flate: the walk of body. -/
namespace Go.Proofs.Ytpbodonmiepilaa
open Go.RowKit

def SymOk (L D : List Int) (t : Tok) : Prop := TokOk t ∧ (t.len = 0 → t.lit.toNat < L.length) ∧ (t.len ≠ 0 → (lenSym t.len.toNat).1 < L.length ∧ (distSym t.dist.toNat).1 < D.length)
theorem toksB_succ {L D : List Int} {l : List Tok} {k : Nat} {t : Tok} (h : l[k]? = some t) : toksB L D (l.take (k + 1)) = toksB L D (l.take k) ++ tbits L D t := by
  unfold toksB
  rw [List.take_add_one, h, List.flatMap_append]
  simp
theorem toksB_take_le {L D : List Int} (hL : ∀ x ∈ L, 0 ≤ x ∧ x ≤ 15) (hD : ∀ x ∈ D, 0 ≤ x ∧ x ≤ 15) {l : List Tok} (ht : ∀ t ∈ l, TokOk t) (k : Nat) : (toksB L D (l.take k)).length ≤ 48 * l.length := by
  have := toksB_le hL hD (l := l.take k) (fun t h => ht t (List.mem_of_mem_take h))
  rw [List.length_take] at this
  omega

set_option maxRecDepth 100000 in
set_option maxHeartbeats 6400000 in
theorem body_any {w0 w : World} {ps : List Piece} {g : Nat} {bs : List Bool} {v u v2 u2 tv : Value} {L D : List Int} {l : List Tok} (hc : CodOk w0 ps v u L) (hd : CodOk w0 ps v2 u2 D) (ht : Reads w0 ps 3 tv l.length (rows tcell l)) (hs : ∀ t ∈ l, SymOk L D t) (he : 256 < L.length) (H : Own w0 w (Wtr g bs :: ps)) (hl : bs.length + 48 * l.length ≤ 35184372080000) :
    Calls Try.prog 36 #[.pointer (some ⟨g, 0, none⟩), tv, .agg #[v, u], .agg #[v2, u2]] w (Ret fun _ w' => Own w0 w' (Wtr g (bs ++ bodyB L D l) :: ps)) := by
  obtain ⟨ta, tc, rfl, ht1, ht2⟩ := (ht w H.drop).shape
  obtain ⟨a1, c1, rfl, -⟩ := (hc.len w H.drop).shape
  obtain ⟨a2, c2, rfl, -⟩ := (hc.cod w H.drop).shape
  obtain ⟨a3, c3, rfl, -⟩ := (hd.len w H.drop).shape
  obtain ⟨a4, c4, rfl, -⟩ := (hd.cod w H.drop).shape
  have hall := hc.all
  have hdall := hd.all
  obtain ⟨n, hn⟩ : ∃ n, Hid (L.length = n) := ⟨_, rfl⟩
  obtain ⟨m, hm⟩ : ∃ m, Hid (D.length = m) := ⟨_, rfl⟩
  obtain ⟨N, hN⟩ : ∃ N, Hid (l.length = N) := ⟨_, rfl⟩
  have HL := Lib.hid (fun k => toksB_take_le hall hdall (fun t h => (hs t h).1) (l := l) k)
  rw [hn.out] at hc he ⊢
  rw [hm.out] at hd ⊢
  rw [hN.out] at ht ht1 hl HL ⊢
  have HC := Lib.hid hc
  have HD := Lib.hid hd
  have HT := Lib.hid ht
  have HS := Lib.hid hs
  clear hc hd ht hs hall hdall
  have H := (H.alloc2 (.cells #[.slice a1 n c1, .slice a2 n c2] 75) (.cells #[.slice a3 m c3, .slice a4 m c4] 75))
  go_enter Try.func36, Try.ntmps36
  go_upto_region 1 with (fail)
  generalize (w.alloc _).alloc _ = w1 at *
  generalize w.heap.size + 1 = g2 at *
  generalize w.heap.size = g1 at *
  have H : Own w0 w1 (Wtr g bs :: blk g1 (.cells #[.slice a1 n c1, .slice a2 n c2] 75) :: blk g2 (.cells #[.slice a3 m c3, .slice a4 m c4] 75) :: ps) := (H.front 1 rfl).front 2 rfl
  have HC2 := Lib.hid (fun (qs : List Piece) => HC.out.mono (qs := qs ++ blk g1 (.cells #[.slice a1 n c1, .slice a2 n c2] 75) :: blk g2 (.cells #[.slice a3 m c3, .slice a4 m c4] 75) :: ps) fun w' h => h.skip.drop.drop)
  have HD2 := Lib.hid (fun (qs : List Piece) => HD.out.mono (qs := qs ++ blk g1 (.cells #[.slice a1 n c1, .slice a2 n c2] 75) :: blk g2 (.cells #[.slice a3 m c3, .slice a4 m c4] 75) :: ps) fun w' h => h.skip.drop.drop)
  clear HC HD
  go_wp2_with fail
  go_loopw [15] (fun s15 wx => ∃ k : Nat, s15 = .int .i64 k ∧ k ≤ N ∧ Own w0 wx (Wtr g (bs ++ toksB L D (l.take k)) :: blk g1 (.cells #[.slice a1 n c1, .slice a2 n c2] 75) :: blk g2 (.cells #[.slice a3 m c3, .slice a4 m c4] 75) :: ps)) (fun s15 _ => N - (intOf s15).toNat)
  case atStart => exact ⟨0, by go_num, by omega, by simpa [toksB] using H⟩
  case round =>
    clear H
    obtain ⟨k, rfl, hk, H⟩ := hrel
    have hlk := HL.out k
    obtain ⟨B, hB⟩ : ∃ B, Hid (bs ++ toksB L D (l.take k) = B) := ⟨_, rfl⟩
    have hBl : B.length ≤ 35184372081000 := by rw [← hB.out, List.length_append]; omega
    rw [hB.out] at H
    by_cases hlt : k < N
    · have hI : (k : Int) < (N : Int) := by omega
      obtain ⟨t, htk⟩ := get_of_lt (l := l) (k := k) (by rw [hN.out]; exact hlt)
      have hso := HS.out t (List.mem_of_getElem? htk)
      have hB2 : Hid (bs ++ toksB L D (l.take (k + 1)) = B ++ tbits L D t) := Lib.hid (by rw [toksB_succ htk, ← List.append_assoc, hB.out])
      obtain ⟨b, o, _, he2, -⟩ := (HT.out _ H.drop.drop.drop).some (by rw [rows_length tcell tcell_length, hN.out]; omega)
      cases he2
      obtain ⟨c0, cc1, cc2⟩ := tok_cells (HT.out _ H.drop.drop.drop) htk
      obtain ⟨x, y, z⟩ := t
      simp only at c0 cc1 cc2
      clear htk hlk
      go_upto_region 4 with (refine wpList_store_agg (vs := [.int .i64 x, .int .i64 y, .int .i64 z]) rfl _ _ rfl rfl (H.alloc _) rfl (by kernel_rfl) (by simp) (by simp; exact ⟨rfl, rfl, rfl⟩) rfl ?_; clear H; intro w5 H)
      generalize wr.heap.size = tb at *
      have H : Own w0 w5 (Wtr g B :: blk tb (.cells #[.int .i64 x, .int .i64 y, .int .i64 z] 46) :: blk g1 (.cells #[.slice a1 n c1, .slice a2 n c2] 75) :: blk g2 (.cells #[.slice a3 m c3, .slice a4 m c4] 75) :: ps) := H.swap
      clear c0 cc1 cc2
      have hok := hso.1
      by_cases hx : x = 0
      · subst hx
        have hz : 0 ≤ z ∧ z < 256 := by rcases hok with h | h <;> simp only at h <;> omega
        obtain ⟨s, rfl⟩ : ∃ s : Nat, z = s := ⟨z.toNat, by omega⟩
        have hsl : s < L.length := by have := hso.2.1 rfl; simpa using this
        have htb : tbits L D ⟨0, y, (s : Int)⟩ = cbits L s := by unfold tbits; rw [if_pos rfl, Int.toNat_natCast]
        rw [htb] at hB2
        have hp := fun w1 h => cput_any (w := w1) (HC2.out [blk tb (.cells #[.int .i64 0, .int .i64 y, .int .i64 (s : Int)] 46)]) hsl h (bs := B) (g := g) (by omega)
        have HP := Lib.hid hp
        clear hp hso hok htb
        have c0 := (H.front 1 rfl).cells
        have cg1 := (H.front 2 rfl).cells
        go_wp2_with fail
        refine (HP.out _ H).mono ?_
        rintro e w6 ⟨_, rfl, H6⟩
        clear H c0 cg1
        have H : Own w0 w6 (Wtr g (B ++ cbits L s) :: blk g1 (.cells #[.slice a1 n c1, .slice a2 n c2] 75) :: blk g2 (.cells #[.slice a3 m c3, .slice a4 m c4] 75) :: ps) := (H6.front 1 rfl).drop
        rw [← hB2.out] at H
        clear H6
        go_wp2_with fail
        go_roundw
        case rel => exact ⟨k + 1, by go_num, by omega, H⟩
        case measure => simp [intOf]; omega
      · have hxb : (x == 0) = false := by simpa using hx
        have hb : 3 ≤ x ∧ x ≤ 258 ∧ 1 ≤ y ∧ y ≤ 32768 := by rcases hok with h | h <;> simp only at h <;> omega
        obtain ⟨p, rfl⟩ : ∃ p : Nat, x = p := ⟨x.toNat, by omega⟩
        obtain ⟨q, rfl⟩ : ∃ q : Nat, y = q := ⟨y.toNat, by omega⟩
        obtain ⟨hs1, hs2⟩ := hso.2.2 hx
        simp only [Int.toNat_natCast] at hs1 hs2
        have hlb := lenSym_bd (n := p) (by omega)
        have hdb := distSym_bd (n := q) (by omega)
        have hln := length_any p (by omega) (by omega)
        have hdn := dist_any q (by omega) (by omega)
        have htb : tbits L D ⟨(p : Int), (q : Int), z⟩ = cbits L (lenSym p).1 ++ (bitsOf (lenSym p).2.2 (lenSym p).2.1 ++ (cbits D (distSym q).1 ++ bitsOf (distSym q).2.2 (distSym q).2.1)) := by unfold tbits; rw [if_neg hx]; rfl
        rw [htb] at hB2
        obtain ⟨l1, l2, l3, hl1⟩ : ∃ l1 l2 l3, Hid (lenSym p = (l1, l2, l3)) := ⟨_, _, _, rfl⟩
        obtain ⟨d1, d2, d3, hd1⟩ : ∃ d1 d2 d3, Hid (distSym q = (d1, d2, d3)) := ⟨_, _, _, rfl⟩
        rw [hl1.out] at hs1 hlb hln hB2
        rw [hd1.out] at hs2 hdb hdn hB2
        simp only at hs1 hlb hln hB2 hs2 hdb hdn
        obtain ⟨-, -, hl2, hl3⟩ := hlb
        obtain ⟨-, hd2, hd3⟩ := hdb
        have hl3b : l3 < 32 := Nat.lt_of_lt_of_le hl3 (Nat.pow_le_pow_right (n := 2) (by omega) hl2)
        have hd3b : d3 < 8192 := Nat.lt_of_lt_of_le hd3 (Nat.pow_le_pow_right (n := 2) (by omega) hd2)
        have HB2 := hB2
        clear hl3 hd3 htb hl1 hd1 hso hok
        have k1 := fun w1 h => cput_any (w := w1) (HC2.out [blk tb (.cells #[.int .i64 (p : Int), .int .i64 (q : Int), .int .i64 z] 46)]) hs1 h (bs := B) (g := g) (by omega)
        have bd1 := cbits_le (HC2.out []).all l1
        have k2 := fun w1 (h : Own w0 w1 (Wtr g (B ++ cbits L l1) :: blk tb (.cells #[.int .i64 (p : Int), .int .i64 (q : Int), .int .i64 z] 46) :: blk g1 (.cells #[.slice a1 n c1, .slice a2 n c2] 75) :: blk g2 (.cells #[.slice a3 m c3, .slice a4 m c4] 75) :: ps)) => put_any (l3 : Int) (l2 : Int) (by omega) (by omega) h (by rw [List.length_append]; omega)
        rw [cut_eq (by omega) (by omega), Int.toNat_natCast] at k2
        have k3 := fun w1 h => cput_any (w := w1) (HD2.out [blk tb (.cells #[.int .i64 (p : Int), .int .i64 (q : Int), .int .i64 z] 46)]) hs2 h (bs := B ++ cbits L l1 ++ bitsOf l3 l2) (g := g) (by rw [List.length_append, List.length_append, bitsOf_length]; omega)
        have bd2 := cbits_le (HD2.out []).all d1
        have k4 := fun w1 (h : Own w0 w1 (Wtr g (B ++ cbits L l1 ++ bitsOf l3 l2 ++ cbits D d1) :: blk tb (.cells #[.int .i64 (p : Int), .int .i64 (q : Int), .int .i64 z] 46) :: blk g1 (.cells #[.slice a1 n c1, .slice a2 n c2] 75) :: blk g2 (.cells #[.slice a3 m c3, .slice a4 m c4] 75) :: ps)) => put_any (d3 : Int) (d2 : Int) (by omega) (by omega) h (by rw [List.length_append, List.length_append, List.length_append, bitsOf_length]; omega)
        rw [cut_eq (by omega) (by omega), Int.toNat_natCast] at k4
        have K1 := Lib.hid k1
        have K2 := Lib.hid k2
        have K3 := Lib.hid k3
        have K4 := Lib.hid k4
        have LN := Lib.hid hln
        have DN := Lib.hid hdn
        clear k1 k2 k3 k4 hln hdn bd1 bd2 hs1 hs2
        have c0 := (H.front 1 rfl).cells
        have cg1 := (H.front 2 rfl).cells
        go_wp2_with fail
        refine (LN.out _).mono ?_
        rintro e w6 ⟨_, rfl, rfl, H6⟩
        replace H := H.join H6
        clear H6 c0 cg1
        have c0 := (H.front 1 rfl).cells
        have cg1 := (H.front 2 rfl).cells
        go_wp2_with fail
        refine (K1.out _ H).mono ?_
        rintro e w7 ⟨_, rfl, H7⟩
        clear H c0 cg1
        go_wp2_with fail
        refine (K2.out _ H7).mono ?_
        rintro e w8 ⟨_, rfl, H⟩
        clear H7
        have c0 := (H.front 1 rfl).cells
        go_wp2_with fail
        refine (DN.out _).mono ?_
        rintro e w9 ⟨_, rfl, rfl, H6⟩
        replace H := H.join H6
        clear H6 c0
        have cg2 := (H.front 3 rfl).cells
        go_wp2_with fail
        refine (K3.out _ H).mono ?_
        rintro e w10 ⟨_, rfl, H10⟩
        clear H cg2
        go_wp2_with fail
        refine (K4.out _ H10).mono ?_
        rintro e w11 ⟨_, rfl, H11⟩
        have H : Own w0 w11 (Wtr g (B ++ cbits L l1 ++ bitsOf l3 l2 ++ cbits D d1 ++ bitsOf d3 d2) :: blk g1 (.cells #[.slice a1 n c1, .slice a2 n c2] 75) :: blk g2 (.cells #[.slice a3 m c3, .slice a4 m c4] 75) :: ps) := (H11.front 1 rfl).drop
        simp only [List.append_assoc] at H
        rw [← HB2.out] at H
        clear H10 H11
        go_wp2_with fail
        go_roundw
        case rel => exact ⟨k + 1, by go_num, by omega, H⟩
        case measure => simp [intOf]; omega
    · have hI : ¬ (k : Int) < (N : Int) := by omega
      have hlall : l.take k = l := List.take_of_length_le (by rw [hN.out]; omega)
      rw [hlall] at hB
      have hfin : Hid (bs ++ bodyB L D l = B ++ cbits L 256) := Lib.hid (by unfold bodyB; rw [← List.append_assoc, hB.out])
      have hp := fun w1 h => cput_any (w := w1) (HC2.out []) (s := 256) (by rw [hn.out]; exact he) h (bs := B) (g := g) (by omega)
      have HP := Lib.hid hp
      clear hp hlk
      have cg1 := (H.front 1 rfl).cells
      go_wp2_with fail
      refine (HP.out _ H).mono ?_
      rintro e w6 ⟨_, rfl, H6⟩
      go_wp2_with fail
      go_end0
      rw [hfin.out]
      exact ⟨_, rfl, (H6.front 1 rfl).drop.front 1 rfl |>.drop⟩
end Go.Proofs.Ytpbodonmiepilaa
/- flate: the walks of trim, counted. -/
namespace Go.Proofs.Ytpbodonmiepilaa
open Go.RowKit

set_option maxRecDepth 100000 in
set_option maxHeartbeats 1600000 in
theorem trim_any {w : World} {a : Option Addr} {n c : Nat} {L : List Int} (least : Nat) (hr : Rd w 1 (.slice a n c) n (nums L)) (hn : n ≤ 1000000) (hl : least ≤ 1000000) :
    Calls Try.prog 59 #[.slice a n c, .int .i64 least] w (Ret fun r w' => r = .slice a (trimK L least n) c ∧ Own w w' []) := by
  have H := Own.start w
  obtain ⟨_, _, he, hc1, hc2⟩ := hr.shape
  cases he
  have hLn := rd_len hr
  obtain ⟨K, hK⟩ : ∃ K, Hid (trimK L least n = K) := ⟨_, Lib.hid rfl⟩
  rw [hK.out]
  have HR := Lib.hid hr
  have HLN := Lib.hid hLn
  clear hr hLn
  go_enter Try.func59, Try.ntmps59
  go_wp2_with fail
  go_loopw [0] (fun s0 wx => ∃ k : Nat, s0 = .slice a k c ∧ k ≤ n ∧ Hid (trimK L least k = K) ∧ Own w wx []) (fun s0 _ => sliceLen s0)
  case atStart => exact ⟨n, rfl, Nat.le_refl _, hK, H⟩
  case round =>
    clear H hK
    obtain ⟨k, rfl, hk, hK, H⟩ := hrel
    have fin : trimK L least k = k → Hid (k = K) := fun h => Lib.hid (by rw [← hK.out, h])
    by_cases h1 : least < k
    · have h1I : (least : Int) < (k : Int) := by omega
      obtain ⟨j, rfl⟩ : ∃ j, k = j + 1 := ⟨k - 1, by omega⟩
      obtain ⟨b, o, rfl, c0⟩ := rd_at HR.out H (i := j) (by omega)
      have hst : trimK L least (j + 1) = if least < j + 1 ∧ L.getD j 0 = 0 then trimK L least j else j + 1 := rfl
      obtain ⟨x, hx⟩ : ∃ x, L.getD j 0 = x := ⟨_, rfl⟩
      rw [hx] at hst c0
      clear hx
      have hjw : IntKind.i64.wrap (((j + 1 : Nat) : Int) - 1) = (j : Int) := by rw [show ((j + 1 : Nat) : Int) - 1 = (j : Int) by omega]; exact IntWalk.i64_in _ ⟨by omega, by omega⟩
      have hjw2 : IntKind.i64.wrap ((j : Int) + 1 - 1) = (j : Int) := by rw [show (j : Int) + 1 - 1 = (j : Int) by omega]; exact IntWalk.i64_in _ ⟨by omega, by omega⟩
      have hjc : (j : Int) ≤ (c : Int) := by omega
      by_cases hx0 : x = 0
      · subst hx0
        rw [if_pos ⟨h1, rfl⟩, hK.out] at hst
        have HST := Lib.hid hst.symm
        clear hst fin
        go_wp2_with fail
        go_roundw
        case rel => exact ⟨j, rfl, by omega, HST, H⟩
        case measure => simp [sliceLen]
      · have hxb : (x == 0) = false := by simpa using hx0
        rw [if_neg (fun h => hx0 h.2)] at hst
        have hfk := fin hst
        clear hst fin
        go_wp2_with fail
        go_ret
        exact ⟨_, rfl, by rw [← hfk.out]; rfl, H⟩
    · have h1I : ¬ (least : Int) < (k : Int) := by omega
      have hst : trimK L least k = k := by
        cases k with
        | zero => rfl
        | succ k => rw [trimK, if_neg (fun h => h1 h.1)]
      have hfk := fin hst
      clear hst fin
      go_wp2_with fail
      go_ret
      exact ⟨_, rfl, by rw [← hfk.out]; rfl, H⟩
theorem Own.getc {w0 w : World} {ps : List Piece} {e : TypeId} {size n g c j : Nat} {xs : List Value} {u : Value} (h : Own w0 w (slc e size (.slice (some ⟨g, 0, none⟩) n c) n xs :: ps)) (hu : xs[j]? = some u) : w.cell? ⟨g, j, none⟩ = some u := by
  have := h.rd.cell hu
  rwa [Nat.zero_add] at this
theorem bumpF_snoc (o l : List Int) (x : Int) : bumpF o (l ++ [x]) = bump1 (bumpF o l) x := by simp [bumpF]
def litN (l : List Tok) (k : Nat) : List Int := litFq (l.take k)
def distN (l : List Tok) (k : Nat) : List Int := distFq (l.take k)
theorem litN_succ {l : List Tok} {k : Nat} {t : Tok} (h : l[k]? = some t) : litN l (k + 1) = bump1 (litN l k) (litS t) := by
  unfold litN litFq
  rw [List.take_add_one, h, List.map_append]
  exact bumpF_snoc _ _ _
theorem distN_succ {l : List Tok} {k : Nat} {t : Tok} (h : l[k]? = some t) : distN l (k + 1) = if t.len = 0 then distN l k else bump1 (distN l k) (distS t) := by
  unfold distN distFq
  rw [List.take_add_one, h, List.filter_append, List.map_append]
  split
  · next h0 =>
    have e : List.filter (fun t : Tok => decide (t.len ≠ 0)) (some t).toList = [] := by
      show List.filter (fun t : Tok => decide (t.len ≠ 0)) [t] = []
      rw [List.filter_cons, if_neg (by simpa using h0), List.filter_nil]
    rw [e, List.map_nil, List.append_nil]
  · next h0 =>
    have e : List.filter (fun t : Tok => decide (t.len ≠ 0)) (some t).toList = [t] := by
      show List.filter (fun t : Tok => decide (t.len ≠ 0)) [t] = [t]
      rw [List.filter_cons, if_pos (by simpa using h0), List.filter_nil]
    rw [e]
    exact bumpF_snoc _ _ _
theorem litN_len (l : List Tok) (k : Nat) : (litN l k).length = 286 := by unfold litN litFq; rw [bumpF_length, List.length_set]; exact List.length_replicate
theorem distN_len (l : List Tok) (k : Nat) : (distN l k).length = 30 := by unfold distN distFq; rw [bumpF_length]; exact List.length_replicate
theorem litN_bd (l : List Tok) (k j : Nat) : 0 ≤ (litN l k).getD j 0 ∧ (litN l k).getD j 0 ≤ 1 + l.length := by
  have h0 : ∀ j, 0 ≤ ((zerosF 286).set 256 1).getD j 0 ∧ ((zerosF 286).set 256 1).getD j 0 ≤ 1 := by
    intro j
    rw [List.getD_eq_getElem?_getD, List.getElem?_set]
    split
    · split <;> simp
    · have := zeros_get 286 j
      rw [List.getD_eq_getElem?_getD] at this
      rw [this]; omega
  have := bump_bound ((l.take k).map litS) ((zerosF 286).set 256 1) j 1 h0
  rw [List.length_map, List.length_take] at this
  unfold litN litFq
  omega
theorem distN_bd (l : List Tok) (k j : Nat) : 0 ≤ (distN l k).getD j 0 ∧ (distN l k).getD j 0 ≤ 1 + l.length := by
  have h0 : ∀ j, 0 ≤ (zerosF 30).getD j 0 ∧ (zerosF 30).getD j 0 ≤ 0 := by intro j; rw [zeros_get]; omega
  have := bump_bound (((l.take k).filter fun t => decide (t.len ≠ 0)).map distS) (zerosF 30) j 0 h0
  have h2 := List.length_filter_le (fun t : Tok => decide (t.len ≠ 0)) (l.take k)
  rw [List.length_map] at this
  rw [List.length_take] at h2
  unfold distN distFq
  omega
theorem nums_bump (F : List Int) (s : Nat) : (nums F).set s (.int .i64 (F.getD s 0 + 1)) = nums (bump1 F (s : Int)) := by
  rw [nums_set]; rfl
set_option maxRecDepth 100000 in
set_option maxHeartbeats 6400000 in
theorem counted2_any {w : World} {tv : Value} {l : List Tok} (ht : Rd w 3 tv l.length (rows tcell l)) (hs : ∀ t ∈ l, TokOk t) (hl : l.length ≤ 1000000) :
    Calls Try.prog 57 #[tv] w (Ret fun r w' => ∃ v u, r = .tuple #[v, u] ∧ Own w w' [slc 3 1 v 286 (nums (litFq l)), slc 3 1 u 30 (nums (distFq l))]) := by
  obtain ⟨ta, tc, rfl, ht1, ht2⟩ := ht.shape
  have H := Own.start w
  obtain ⟨N, hN⟩ : ∃ N, Hid (l.length = N) := ⟨_, Lib.hid rfl⟩
  rw [hN.out] at ht ht1 hl ⊢
  have HT := Lib.hid ht
  have HS := Lib.hid hs
  have hmk1 : ∀ w : World, (Instr.makeSlice 22 (.int .i64 286) (.int .i64 286)).run Try.prog w = .ok (.slice (some ⟨w.heap.size, 0, none⟩) 286 286) (w.alloc (.cells (madeCells #[.int .i64 0] 286) 3)) := run_make_row' _ _ _ 8 Try.underlying22 intInfo rfl .i64 .i64 286 (by omega) (by omega)
  have hmk2 : ∀ w : World, (Instr.makeSlice 22 (.int .i64 30) (.int .i64 30)).run Try.prog w = .ok (.slice (some ⟨w.heap.size, 0, none⟩) 30 30) (w.alloc (.cells (madeCells #[.int .i64 0] 30) 3)) := run_make_row' _ _ _ 8 Try.underlying22 intInfo rfl .i64 .i64 30 (by omega) (by omega)
  clear ht hs
  go_enter Try.func57, Try.ntmps57
  go_upto_region 1 with (fail)
  have mk : ∀ (w1 : World) (qs : List Piece) (g n : Nat), n ≤ 1000000 → Own w w1 (blk g (.cells (madeCells #[.int .i64 0] n) 3) :: qs) → Own w w1 (slc 3 1 (.slice (some ⟨g, 0, none⟩) n n) n (nums (List.replicate n 0)) :: qs) := fun w1 qs g n hn h =>
    h.slc_mk (by simp [nums]) (Nat.le_refl _) (by simp [maxLen]; omega) (by simp [size_madeCells]) (by rw [toList_madeCells_one]; simp [nums])
  go_cut [4, 5, 11, 12] (fun s4 s5 _ _ wx => ∃ g1 g2, s4 = .slice (some ⟨g1, 0, none⟩) 286 286 ∧ s5 = .slice (some ⟨g2, 0, none⟩) 30 30 ∧ Own w wx [slc 3 1 (.slice (some ⟨g1, 0, none⟩) 286 286) 286 (nums (List.replicate 286 0)), slc 3 1 (.slice (some ⟨g2, 0, none⟩) 30 30) 30 (nums (List.replicate 30 0))])
  case first =>
    go_region
    all_goals go_wp2
    all_goals go_meet
    · have h := (H.alloc2 (.cells (madeCells #[.int .i64 0] 286) 3) (.cells (madeCells #[.int .i64 0] 30) 3)).drew
      exact ⟨_, _, rfl, rfl, mk _ _ _ _ (by omega) (mk _ _ _ _ (by omega) h).swap⟩
    · have h := (H.alloc2 (.cells (madeCells #[.int .i64 0] 30) 3) (.cells (madeCells #[.int .i64 0] 286) 3)).drew
      exact ⟨_, _, rfl, rfl, (mk _ _ _ _ (by omega) (mk _ _ _ _ (by omega) h).swap).swap⟩
  case rest =>
  obtain ⟨g1, g2, rfl, rfl, H⟩ := hcut
  have hst0 : (nums (List.replicate 286 0)).set 256 (.int .i64 1) = nums (litN l 0) := by rw [nums_set]; rfl
  have HST0 := Lib.hid hst0
  clear hst0
  go_wp2_with (refine wpList_store_slc rfl _ _ rfl rfl H (.int .i64 1) rfl (by kernel_rfl) (by omega) rfl ?_; clear H; intro w2 H; rw [HST0.out] at H)
  go_loopw [17] (fun s17 wx => ∃ k : Nat, s17 = .int .i64 k ∧ k ≤ N ∧ Own w wx [slc 3 1 (.slice (some ⟨g1, 0, none⟩) 286 286) 286 (nums (litN l k)), slc 3 1 (.slice (some ⟨g2, 0, none⟩) 30 30) 30 (nums (distN l k))]) (fun s17 _ => N - (intOf s17).toNat)
  case atStart => exact ⟨0, by go_num, by omega, H⟩
  case round =>
    clear H
    obtain ⟨k, rfl, hk, H⟩ := hrel
    by_cases hlt : k < N
    · have hI : (k : Int) < (N : Int) := by omega
      obtain ⟨t, htk⟩ := get_of_lt (l := l) (k := k) (by rw [hN.out]; exact hlt)
      have hok := HS.out t (List.mem_of_getElem? htk)
      have hls := litN_succ htk
      have hds := distN_succ htk
      obtain ⟨b, o, _, he2, -⟩ := HT.out.some (by rw [rows_length tcell tcell_length, hN.out]; omega)
      cases he2
      obtain ⟨c0, cc1, cc2⟩ := tok_cells (HT.out.old H) htk
      obtain ⟨x, y, z⟩ := t
      simp only at c0 cc1 cc2 hds
      clear htk
      have HLS := Lib.hid hls
      have HDS := Lib.hid hds
      clear hls hds
      go_upto_region 6 with (refine wpList_store_agg (vs := [.int .i64 x, .int .i64 y, .int .i64 z]) rfl _ _ rfl rfl (H.alloc _) rfl (by kernel_rfl) (by simp) (by simp; exact ⟨rfl, rfl, rfl⟩) rfl ?_; clear H; intro w5 H)
      generalize wr.heap.size = tb at *
      have H : Own w w5 (blk tb (.cells #[.int .i64 x, .int .i64 y, .int .i64 z] 46) :: slc 3 1 (.slice (some ⟨g1, 0, none⟩) 286 286) 286 (nums (litN l k)) :: slc 3 1 (.slice (some ⟨g2, 0, none⟩) 30 30) 30 (nums (distN l k)) :: []) := H
      clear c0 cc1 cc2
      have hlen1 := litN_len l k
      have hlen2 := distN_len l k
      have c0 := H.cells
      by_cases hx : x = 0
      · subst hx
        have hz : 0 ≤ z ∧ z < 256 := by rcases hok with h | h <;> simp only at h <;> omega
        obtain ⟨s, rfl⟩ : ∃ s : Nat, z = s := ⟨z.toNat, by omega⟩
        have hb := litN_bd l k s
        rw [hN.out] at hb
        have c1 := (H.front 1 rfl).getc (nums_get (getD_get (F := litN l k) (i := s) (by omega)))
        have hst := nums_bump (litN l k) s
        have hds2 : Hid (distN l (k + 1) = distN l k) := Lib.hid (by have := HDS.out; rw [if_pos rfl] at this; exact this)
        have hls2 : Hid (litN l (k + 1) = bump1 (litN l k) (s : Int)) := Lib.hid (by have := HLS.out; unfold litS at this; rw [if_pos rfl] at this; exact this)
        obtain ⟨v, hv⟩ : ∃ v, (litN l k).getD s 0 = v := ⟨_, rfl⟩
        rw [hv] at hb c1 hst
        have hw : IntKind.i64.wrap (v + 1) = v + 1 := IntWalk.i64_in _ ⟨by omega, by omega⟩
        have hsI : (s : Int) < 286 := by omega
        have HST := Lib.hid hst
        clear hv hst hlen1 hlen2 hok HDS HLS
        go_wp2_with (refine wpList_store_slc rfl _ _ rfl rfl (H.front 1 rfl) (.int .i64 (v + 1)) rfl (by kernel_rfl) (by omega) rfl ?_; clear H c1 c0; intro w6 H; rw [HST.out, ← hls2.out] at H)
        go_roundw
        case rel => exact ⟨k + 1, by go_num, by omega, by rw [hds2.out]; exact ((H.front 1 rfl).drop)⟩
        case measure => simp [intOf]; omega
      · have hxb : (x == 0) = false := by simpa using hx
        have hb : 3 ≤ x ∧ x ≤ 258 ∧ 1 ≤ y ∧ y ≤ 32768 := by rcases hok with h | h <;> simp only at h <;> omega
        obtain ⟨p, rfl⟩ : ∃ p : Nat, x = p := ⟨x.toNat, by omega⟩
        obtain ⟨q, rfl⟩ : ∃ q : Nat, y = q := ⟨y.toNat, by omega⟩
        have hlb := lenSym_bd (n := p) (by omega)
        have hdb := distSym_bd (n := q) (by omega)
        have hln := length_any p (by omega) (by omega)
        have hdn := dist_any q (by omega) (by omega)
        have hds2 : distN l (k + 1) = bump1 (distN l k) ((distSym q).1 : Int) := by have := HDS.out; rw [if_neg hx] at this; unfold distS at this; simpa using this
        have hls2 : litN l (k + 1) = bump1 (litN l k) ((lenSym p).1 : Int) := by have := HLS.out; unfold litS at this; rw [if_neg hx] at this; simpa using this
        obtain ⟨l1, l2, l3, hl1⟩ : ∃ l1 l2 l3, lenSym p = (l1, l2, l3) := ⟨_, _, _, rfl⟩
        obtain ⟨d1, d2, d3, hd1⟩ : ∃ d1 d2 d3, distSym q = (d1, d2, d3) := ⟨_, _, _, rfl⟩
        rw [hl1] at hlb hln hls2
        rw [hd1] at hdb hdn hds2
        simp only at hlb hdb hln hdn hls2 hds2
        have c1 := (H.front 1 rfl).getc (nums_get (getD_get (F := litN l k) (i := l1) (by omega)))
        have c2 := (H.front 2 rfl).getc (nums_get (getD_get (F := distN l k) (i := d1) (by omega)))
        have hst := nums_bump (litN l k) l1
        have hst2 := nums_bump (distN l k) d1
        have hb1 := litN_bd l k l1
        have hb2 := distN_bd l k d1
        rw [hN.out] at hb1 hb2
        rw [← hls2] at hst
        rw [← hds2] at hst2
        have hd29 := hdb.1
        obtain ⟨v, hv⟩ : ∃ v, (litN l k).getD l1 0 = v := ⟨_, rfl⟩
        obtain ⟨u, hu⟩ : ∃ u, (distN l k).getD d1 0 = u := ⟨_, rfl⟩
        rw [hv] at hb1 c1 hst
        rw [hu] at hb2 c2 hst2
        have hw : IntKind.i64.wrap (v + 1) = v + 1 := IntWalk.i64_in _ ⟨by omega, by omega⟩
        have hw2 : IntKind.i64.wrap (u + 1) = u + 1 := IntWalk.i64_in _ ⟨by omega, by omega⟩
        have hsI : (l1 : Int) < 286 := by omega
        have hdI : (d1 : Int) < 30 := by omega
        have HST := Lib.hid hst
        have HST2 := Lib.hid hst2
        have LN := Lib.hid hln
        have DN := Lib.hid hdn
        have hl286 : l1 < 286 := by omega
        have hd30 : d1 < 30 := by omega
        have HU := Lib.hid (show (nums (distN l k))[d1]? = some (.int .i64 u) by rw [← hu]; exact nums_get (getD_get (by omega)))
        clear hv hu hst hst2 hlen1 hlen2 hok HDS HLS hlb hdb hln hdn hls2 hds2 hl1 hd1
        have CELLS := Lib.hid (fun (w' : World) (h : Own w5 w' []) => And.intro ((h.oldCell (World.block_lt_of_cell? _ _ c1)).trans c1) ((h.oldCell (World.block_lt_of_cell? _ _ c2)).trans c2))
        clear c1 c2
        go_wp2_with fail
        refine (LN.out _).mono ?_
        rintro e w6 ⟨_, rfl, rfl, H6⟩
        obtain ⟨c1, c2⟩ := CELLS.out _ H6
        replace H := H.join H6
        clear H6 c0
        have H : Own w w6 (blk tb (.cells #[.int .i64 (p : Int), .int .i64 (q : Int), .int .i64 z] 46) :: slc 3 1 (.slice (some ⟨g1, 0, none⟩) 286 286) 286 (nums (litN l k)) :: slc 3 1 (.slice (some ⟨g2, 0, none⟩) 30 30) 30 (nums (distN l k)) :: []) := H
        have c0 := H.cells
        go_wp2_with (refine wpList_store_slc rfl _ _ rfl rfl (H.front 1 rfl) (.int .i64 (v + 1)) rfl (by kernel_rfl) hl286 rfl ?_; clear H c1 c0; intro w7 H; rw [HST.out] at H; replace H := H.swap; have c0 := H.cells)
        refine (DN.out _).mono ?_
        rintro e w8 ⟨_, rfl, rfl, H6⟩
        replace H := H.join H6
        clear H6 c0
        have H : Own w w8 (blk tb (.cells #[.int .i64 (p : Int), .int .i64 (q : Int), .int .i64 z] 46) :: slc 3 1 (.slice (some ⟨g1, 0, none⟩) 286 286) 286 (nums (litN l (k + 1))) :: slc 3 1 (.slice (some ⟨g2, 0, none⟩) 30 30) 30 (nums (distN l k)) :: []) := H
        have c2' := (H.front 2 rfl).getc HU.out
        clear c2
        go_wp2_with (refine wpList_store_slc rfl _ _ rfl rfl (H.front 2 rfl) (.int .i64 (u + 1)) rfl (by kernel_rfl) hd30 rfl ?_; clear H c2'; intro w9 H; rw [HST2.out] at H)
        go_roundw
        case rel => exact ⟨k + 1, by go_num, by omega, (((H.front 2 rfl).front 2 rfl).drop)⟩
        case measure => simp [intOf]; omega
    · obtain rfl : k = N := by omega
      have hI : ¬ (k : Int) < (k : Int) := by omega
      have h1 : litN l k = litFq l := by unfold litN; rw [List.take_of_length_le (by rw [hN.out]; exact Nat.le_refl _)]
      have h2 : distN l k = distFq l := by unfold distN; rw [List.take_of_length_le (by rw [hN.out]; exact Nat.le_refl _)]
      rw [h1, h2] at H
      clear h1 h2
      go_wp2_with fail
      go_ret2
      exact ⟨_, rfl, _, _, rfl, H⟩
end Go.Proofs.Ytpbodonmiepilaa
/- flate: the walk of runs. -/
namespace Go.Proofs.Ytpbodonmiepilaa
open Go.RowKit

def rcell (r : Run) : List Value := [.int .i64 r.sym, .int .i64 r.n, .int .i64 r.v]
theorem rcell_length (r : Run) : (rcell r).length = 3 := rfl
theorem runInfo : (Try.prog.info? 100).map (fun i => (i.zero, i.size, i.bytes)) = some (some (.agg #[.int .i64 0, .int .i64 0, .int .i64 0]), 3, 24) := by kernel_rfl
theorem rd_tailK {w : World} {b o cap n k : Nat} {F : List Int} (h : Rd w 1 (.slice (some ⟨b, o, none⟩) n cap) n (nums F)) (hk : k ≤ n) :
    Rd w 1 (.slice (if cap = k then some ⟨b, o, none⟩ else some ⟨b, o + k, none⟩) (n - k) (cap - k)) (n - k) (nums (F.drop k)) := by
  have h1 := h.tail (k := k) hk
  have e : (nums F).drop (k * 1) = nums (F.drop k) := by rw [Nat.mul_one]; simp [nums, List.map_drop]
  rw [e] at h1
  by_cases hc : cap = k
  · subst hc
    obtain ⟨hl, a, c, e, hle, _⟩ := h
    cases e
    have hn : n = cap := by omega
    subst hn
    rw [if_pos rfl, Nat.sub_self]
    have hx : F.drop n = [] := List.drop_eq_nil_of_le (by rw [nums_length] at hl; omega)
    rw [hx]
    exact ⟨by simp [nums], _, _, rfl, by omega, by simp [maxLen], by simp, fun ad _ j u hu => by simp [nums] at hu⟩
  · rw [if_neg hc]
    have e2 : (⟨b, o, none⟩ : Addr).add (k * 1) = ⟨b, o + k, none⟩ := by rw [Addr.add_lit, Nat.mul_one]
    rw [e2] at h1
    exact h1
theorem sameK_le (x : Int) : ∀ t, sameK x t ≤ t.length
  | [] => by simp [sameK]
  | y :: t => by
    rw [sameK]
    have := sameK_le x t
    split <;> simp <;> omega
theorem sameK_get {x : Int} : ∀ (t : List Int) (j : Nat), j < sameK x t → t.getD j 0 = x
  | [], j, h => by simp [sameK] at h
  | y :: t, j, h => by
    rw [sameK] at h
    split at h
    · next he =>
      cases j with
      | zero => simpa using he
      | succ j => simpa using sameK_get t j (by omega)
    · omega
theorem sameK_end {x : Int} : ∀ (t : List Int), sameK x t < t.length → t.getD (sameK x t) 0 ≠ x
  | [], h => by simp at h
  | y :: t, h => by
    rw [sameK] at h ⊢
    split
    · next he =>
      rw [if_pos he] at h
      have := sameK_end t (by simpa using h)
      simpa using this
    · next he => simpa using he

theorem runs_fuel : ∀ (f g : Nat) (X : List Int), X.length ≤ f → X.length ≤ g → runsN f X = runsN g X := by
  intro f
  induction f with
  | zero =>
    intro g X hf hg
    have : X = [] := List.eq_nil_of_length_eq_zero (by omega)
    subst this
    cases g <;> rfl
  | succ f ih =>
    intro g X hf hg
    cases X with
    | nil => cases g <;> rfl
    | cons x t =>
      obtain ⟨g, rfl⟩ : ∃ g', g = g' + 1 := ⟨g - 1, by simp at hg; omega⟩
      simp only [List.length_cons] at hf hg
      have hd : ∀ j, 1 ≤ j → runsN f ((x :: t).drop j) = runsN g ((x :: t).drop j) := fun j hj => ih g _ (by rw [List.length_drop, List.length_cons]; omega) (by rw [List.length_drop, List.length_cons]; omega)
      rw [runsN, runsN, hd _ (by omega), hd _ (by omega), hd _ (by omega), ih g t (by omega) (by omega)]
/-- The rest of runs, behind so many. -/
theorem runs_rest {f n k : Nat} {X : List Int} (h : X.length = n) (hk : 1 ≤ k) (hf : n ≤ f + 1) : runsN f (X.drop k) = runsN (n - k) (X.drop k) :=
  runs_fuel _ _ _ (by rw [List.length_drop]; omega) (by rw [List.length_drop]; omega)
section
variable {w0 w : World} {ps : List Piece} {e : TypeId} {size n : Nat} {v : Value} {xs : List Value} {P : Program} {t : TypeId} {z : Value} {bytes : Nat}
/-- 'out = append(out, x, y)', the new elements in a fresh block. -/
theorem wpList_append_many {ops : Array Oper} {rest : List Oper} {o : Oper} {a : Act} {Q : Exit → Act → World → Prop} (hgd : o.guard = none) (s x : Operand)
    (ho : o.op = .call { callee := .builtin .append, args := #[s, x], argTypes := #[t, t] })
    (ht : P.underlying t = some (.slice e)) (hinfo : (P.info? e).map (fun i => (i.zero, i.size, i.bytes)) = some (some z, size, bytes)) (hzs : z.cells.size = size) (hsz : 0 < size)
    (hs : a.eval s = v) (H : Own w0 w (slc e size v n xs :: ps))
    {news : List Value} {m c : Nat} (hx : a.eval x = .slice (some ⟨w.heap.size, 0, none⟩) m c) (hc : c = m) (hm : m ≤ 1000) (hl : news.length = m * size) (h1 : ∀ u ∈ news, u.oneCell' = true)
    (h63 : n + m ≤ 9223372036854775807) (hbytes : (n + m) * bytes ≤ 140737488355328)
    (h : ∀ v' w', Own w0 w' (slc e size v' (n + m) (xs ++ news) :: ps) → wpList P ops Q rest (a.put o.dst v') w') : wpList P ops Q (o :: rest) a (w.alloc (.cells news.toArray e)) := by
  subst hc
  refine wpList_append_sep hgd s x ho ht hinfo hzs hsz hs (H.alloc' _) (m := c) (news := news) ?_ h1 h63 hbytes h
  rw [hx]
  exact ((H.made news e size c hl (by simp [maxLen]; omega)).rd)
end

set_option maxRecDepth 100000 in
set_option maxHeartbeats 12800000 in
theorem runs_any {w : World} {v : Value} {m : Nat} {L : List Int} (hr : Rd w 1 v m (nums L)) (hm : m ≤ 1000) :
    Calls Try.prog 60 #[v] w (Ret fun r w' => Own w w' [slc 100 3 r (runsF L).length (rows rcell (runsF L))]) := by
  have H := (Own.start w).nil 100 3
  have hLn := rd_len hr
  obtain ⟨R, hR⟩ : ∃ R, Hid (runsF L = R) := ⟨_, Lib.hid rfl⟩
  rw [hR.out]
  have hR0 : Hid ([] ++ runsN m L = R) := Lib.hid (by rw [List.nil_append, ← hR.out, ← hLn]; rfl)
  have HR := Lib.hid hr
  have HLN := Lib.hid hLn
  obtain ⟨a0, c0, rfl, -⟩ := hr.shape
  clear hr hLn hR
  go_enter Try.func60, Try.ntmps60
  go_wp2_with fail
  go_loopw [0, 3] (fun s0 s3 wx => ∃ (X : List Int) (n q : Nat) (rs : List Run), Hid (Rd w 1 s0 n (nums X)) ∧ Hid (X.length = n) ∧ n ≤ 1000 ∧ q + 2 * n ≤ 2000 ∧ Hid (rs ++ runsN n X = R) ∧ Hid (rs.length = q) ∧ Own w wx [slc 100 3 s3 q (rows rcell rs)]) (fun s0 _ _ => sliceLen s0)
  case atStart => exact ⟨L, m, 0, [], HR, HLN, hm, by omega, hR0, Lib.hid rfl, H⟩
  case round =>
    clear H HR HLN hR0
    obtain ⟨X, n, q, rs, HU, hXl, hn, hq, hRs, hql, H⟩ := hrel
    obtain ⟨sa, sc, rfl, hsc1, hsc2⟩ := HU.out.shape
    obtain ⟨ra, rc, rfl, hrc1, hrc2⟩ := H.rd.shape
    by_cases h0 : 0 < n
    · have h0I : (0 : Int) < (n : Int) := by omega
      obtain ⟨x, t, rfl⟩ : ∃ x t, X = x :: t := by
        cases X with
        | nil => have := hXl.out; simp at this; omega
        | cons x t => exact ⟨x, t, rfl⟩
      have htl : t.length = n - 1 := by have := hXl.out; simp at this; omega
      obtain ⟨b, o, _, he, -⟩ := HU.out.some (by rw [nums_length, hXl.out]; exact h0)
      cases he
      obtain ⟨K, hK⟩ : ∃ K, Hid (sameK x t + 1 = K) := ⟨_, Lib.hid rfl⟩
      have hKn : K ≤ n := by rw [← hK.out]; have := sameK_le x t; omega
      have hK1 : 1 ≤ K := by rw [← hK.out]; omega
      have g : ∀ (w' : World) (ps' : List Piece), Own w w' ps' → ∀ j, j < n → w'.cell? ⟨b, o + j, none⟩ = some (.int .i64 ((x :: t).getD j 0)) := fun w' ps' h j hj => by
        have h2 := rd_at HU.out h hj
        obtain ⟨_, _, e, h3⟩ := h2
        cases e
        exact h3
      have hg0 : Hid (∀ j, j < K → (x :: t).getD j 0 = x) := Lib.hid (fun j hj => by
        cases j with
        | zero => rfl
        | succ j => simpa using sameK_get t j (by rw [← hK.out] at hj; omega))
      have hgK : Hid (K < n → (x :: t).getD K 0 ≠ x) := Lib.hid (fun h => by
        rw [← hK.out] at h ⊢
        have := sameK_end (x := x) t (by omega)
        simpa using this)
      have G := Lib.hid g
      clear g htl
      go_wp2_with fail
      go_loopw [4] (fun s4 wx => ∃ k : Nat, s4 = .int .i64 k ∧ 1 ≤ k ∧ k ≤ K ∧ Own w wx [slc 100 3 (.slice ra q rc) q (rows rcell rs)]) (fun s4 _ => 1000 - (intOf s4).toNat)
      case atStart => exact ⟨1, by go_num, by omega, hK1, H⟩
      case round =>
        clear H
        obtain ⟨k, rfl, hk1, hkK, H⟩ := hrel
        have hcase : k < K ∨ k = K ∧ K < n ∨ k = K ∧ Hid (K = n) := by
          rcases Nat.lt_or_ge k K with h | h
          · exact .inl h
          · rcases Nat.lt_or_ge K n with h2 | h2
            · exact .inr (.inl ⟨by omega, h2⟩)
            · exact .inr (.inr ⟨by omega, Lib.hid (by omega)⟩)
        rcases hcase with hlt | ⟨rfl, hlt⟩ | ⟨rfl, hlt⟩
        · have hkI : (k : Int) < (n : Int) := by omega
          have hkn : k < n := by omega
          have G2 := Lib.hid (fun w1 (h : Own w w1 [slc 100 3 (.slice ra q rc) q (rows rcell rs)]) => And.intro (G.out w1 _ h 0 h0) (G.out w1 _ h k hkn))
          rw [hg0.out 0 (by omega), hg0.out k hlt, Nat.add_zero] at G2
          go_upto_region 4 with (fail)
          refine wp_region_calm (fun w1 => Own w w1 [slc 100 3 (.slice ra q rc) q (rows rcell rs)]) 13 (by kernel_rfl) (by kernel_rfl) H.drew ?_
          simp only [List.take_succ_cons, List.take_zero, List.drop_succ_cons, List.drop_zero]
          repeat
            first
            | (refine calm_value (v := ?_) (by decide) rfl (fun σ w1 hS => ?_) ?_
               rotate_left
               · obtain ⟨c1, c2⟩ := G2.out _ hS
                 first | (go_simp; rfl) | rfl
               simp only [Act.put, List.setIfInBounds_toArray, List.set_cons_zero, List.set_cons_succ])
            | (refine calm_skip (by decide) rfl ?_
               simp only [Act.put, List.setIfInBounds_toArray, List.set_cons_zero, List.set_cons_succ])
          refine calm_nil ?_
          intro wd HD
          clear H
          go_wp2_with fail
          go_roundw
          case rel => exact ⟨k + 1, by go_num, by omega, by omega, HD⟩
          case measure => simp [intOf]; omega
        case' inr.inl =>
          have hkI : (k : Int) < (n : Int) := by omega
          obtain ⟨y, hy⟩ : ∃ y, Hid ((x :: t).getD k 0 = y) := ⟨_, Lib.hid rfl⟩
          have hyx : (y == x) = false := by have := hgK.out hlt; rw [hy.out] at this; simpa using this
          have G2 := Lib.hid (fun w1 (h : Own w w1 [slc 100 3 (.slice ra q rc) q (rows rcell rs)]) => And.intro (G.out w1 _ h 0 h0) (G.out w1 _ h k hlt))
          rw [hg0.out 0 (by omega), hy.out, Nat.add_zero] at G2
          go_upto_region 4 with (fail)
          refine wp_region_calm (fun w1 => Own w w1 [slc 100 3 (.slice ra q rc) q (rows rcell rs)]) 13 (by kernel_rfl) (by kernel_rfl) H.drew ?_
          simp only [List.take_succ_cons, List.take_zero, List.drop_succ_cons, List.drop_zero]
          repeat
            first
            | (refine calm_value (v := ?_) (by decide) rfl (fun σ w1 hS => ?_) ?_
               rotate_left
               · obtain ⟨c1, c2⟩ := G2.out _ hS
                 first | (go_simp; rfl) | rfl
               simp only [Act.put, List.setIfInBounds_toArray, List.set_cons_zero, List.set_cons_succ])
            | (refine calm_skip (by decide) rfl ?_
               simp only [Act.put, List.setIfInBounds_toArray, List.set_cons_zero, List.set_cons_succ])
          refine calm_nil ?_
          intro wd HD
          clear H hyx hy G2
        case' inr.inr =>
          have hkI : ¬ (k : Int) < (n : Int) := by have := hlt.out; omega
          go_upto_region 4 with (fail)
          refine wp_region_calm (fun w1 => Own w w1 [slc 100 3 (.slice ra q rc) q (rows rcell rs)]) 13 (by kernel_rfl) (by kernel_rfl) H.drew ?_
          simp only [List.take_succ_cons, List.take_zero, List.drop_succ_cons, List.drop_zero]
          repeat
            first
            | (refine calm_value (v := ?_) (by decide) rfl (fun σ w1 hS => ?_) ?_
               rotate_left
               · skip
                 first | (go_simp; rfl) | rfl
               simp only [Act.put, List.setIfInBounds_toArray, List.set_cons_zero, List.set_cons_succ])
            | (refine calm_skip (by decide) rfl ?_
               simp only [Act.put, List.setIfInBounds_toArray, List.set_cons_zero, List.set_cons_succ])
          refine calm_nil ?_
          intro wd HD
          clear H
        all_goals
          clear hkI hlt
          obtain ⟨n, rfl⟩ : ∃ n', n = n' + 1 := ⟨n - 1, by omega⟩
          have H := HD
          clear HD
          have c1 := G.out wd _ H 0 (by omega)
          rw [hg0.out 0 (by omega), Nat.add_zero] at c1
          have hRs2 := hRs.out
          rw [runsN, hK.out] at hRs2
          have hrest := fun j (hj : 1 ≤ j) => runs_rest (f := n) (k := j) hXl.out hj (Nat.le_refl _)
          have hcI : ((n + 1 : Nat) : Int) ≤ (sc : Int) := by omega
          have hkn2 : (k : Int) ≤ ((n + 1 : Nat) : Int) := by omega
          clear G hg0 hgK hK hRs
          by_cases hA : x = 0 ∧ 10 < k
          · rw [if_pos hA, hrest _ (by omega)] at hRs2
            obtain ⟨rfl, hk10⟩ := hA
            have hk10I : (10 : Int) < (k : Int) := by omega
            obtain ⟨kk, hkk⟩ : ∃ kk, Hid (min k 138 = kk) := ⟨_, Lib.hid rfl⟩
            rw [hkk.out] at hRs2
            have hkk1 : 11 ≤ kk := by rw [← hkk.out]; omega
            have hkk2 : kk ≤ n + 1 := by rw [← hkk.out]; omega
            have hkc : (kk : Int) ≤ (sc : Int) := by omega
            have hkn3 : (kk : Int) ≤ ((n + 1 : Nat) : Int) := by omega
            have hkb : kk ≤ 1000 := by omega
            have hw : IntKind.i64.wrap ((kk : Int) - 11) = (kk : Int) - 11 := IntWalk.i64_in _ ⟨by omega, by omega⟩
            go_upto_region 9 with (fail)
            go_cut [4, 40, 41] (fun s4 _ _ wx => wx = wd ∧ s4 = .int .i64 kk)
            case first =>
              have := hkk.out
              go_wp2
              all_goals go_meet
              all_goals exact ⟨rfl, val_int (by omega)⟩
            case rest =>
            obtain ⟨rfl, rfl⟩ := hcut
            have hrow : rows rcell rs ++ [.int .i64 (18), .int .i64 (7), .int .i64 ((kk : Int) - 11)] = rows rcell (rs ++ [(⟨18, 7, (kk : Int) - 11⟩ : Run)]) := by rw [rows_append]; rfl
            have hfin : (rs ++ [(⟨18, 7, (kk : Int) - 11⟩ : Run)]) ++ runsN (n + 1 - (kk)) ((0 :: t).drop (kk)) = R := by rw [← hRs2]; exact List.append_assoc _ _ _
            have hql2 : Hid ((rs ++ [(⟨18, 7, (kk : Int) - 11⟩ : Run)]).length = q + 1) := Lib.hid (by rw [List.length_append, hql.out]; rfl)
            have htail := rd_tailK HU.out (k := kk) (by omega)
            have HROW := Lib.hid hrow
            have HFIN := Lib.hid hfin
            have HTAIL := Lib.hid htail
            have hXl2 : Hid (((0 :: t).drop (kk)).length = n + 1 - (kk)) := Lib.hid (by rw [List.length_drop, hXl.out])
            clear hrow hfin htail hRs2
            go_wp2_with (at_builtin; refine wpList_append_one rfl _ _ rfl Try.underlying97 runInfo rfl (by decide) rfl H (news := [.int .i64 (18), .int .i64 (7), .int .i64 ((kk : Int) - 11)]) rfl rfl rfl (by simp [Value.oneCell']) (by omega) (by omega) ?_; clear H c1; intro v' w' H; rw [HROW.out] at H; obtain ⟨ra2, rc2, rfl, -⟩ := H.rd.shape)
            go_roundw
            case rel => exact ⟨_, _, _, _, HTAIL, hXl2, by omega, by omega, HFIN, hql2, H⟩
            case measure => simp [sliceLen] <;> omega

          · rw [if_neg hA] at hRs2
            by_cases hB : x = 0 ∧ 2 < k
            · rw [if_pos hB, hrest _ (by omega)] at hRs2
              obtain ⟨rfl, hk2⟩ := hB
              have hk10I : ¬ (10 : Int) < (k : Int) := by omega
              have hk2I : (2 : Int) < (k : Int) := by omega
              have hw : IntKind.i64.wrap ((k : Int) - 3) = (k : Int) - 3 := IntWalk.i64_in _ ⟨by omega, by omega⟩
              clear hA
              have hrow : rows rcell rs ++ [.int .i64 (17), .int .i64 (3), .int .i64 ((k : Int) - 3)] = rows rcell (rs ++ [(⟨17, 3, (k : Int) - 3⟩ : Run)]) := by rw [rows_append]; rfl
              have hfin : (rs ++ [(⟨17, 3, (k : Int) - 3⟩ : Run)]) ++ runsN (n + 1 - (k)) ((0 :: t).drop (k)) = R := by rw [← hRs2]; exact List.append_assoc _ _ _
              have hql2 : Hid ((rs ++ [(⟨17, 3, (k : Int) - 3⟩ : Run)]).length = q + 1) := Lib.hid (by rw [List.length_append, hql.out]; rfl)
              have htail := rd_tailK HU.out (k := k) (by omega)
              have HROW := Lib.hid hrow
              have HFIN := Lib.hid hfin
              have HTAIL := Lib.hid htail
              have hXl2 : Hid (((0 :: t).drop (k)).length = n + 1 - (k)) := Lib.hid (by rw [List.length_drop, hXl.out])
              clear hrow hfin htail hRs2
              go_wp2_with (at_builtin; refine wpList_append_one rfl _ _ rfl Try.underlying97 runInfo rfl (by decide) rfl H (news := [.int .i64 (17), .int .i64 (3), .int .i64 ((k : Int) - 3)]) rfl rfl rfl (by simp [Value.oneCell']) (by omega) (by omega) ?_; clear H c1; intro v' w' H; rw [HROW.out] at H; obtain ⟨ra2, rc2, rfl, -⟩ := H.rd.shape)
              go_roundw
              case rel => exact ⟨_, _, _, _, HTAIL, hXl2, by omega, by omega, HFIN, hql2, H⟩
              case measure => simp [sliceLen] <;> omega

            · rw [if_neg hB] at hRs2
              by_cases hC : 3 < k
              · rw [if_pos hC, hrest _ (by omega)] at hRs2
                have hx0 : (x == 0) = false := by simp; omega
                have hCI : (3 : Int) < (k : Int) := by omega
                clear hA hB
                obtain ⟨kk, hkk⟩ : ∃ kk, Hid (min k 7 = kk) := ⟨_, Lib.hid rfl⟩
                rw [hkk.out] at hRs2
                have hkk1 : 4 ≤ kk := by rw [← hkk.out]; omega
                have hkk2 : kk ≤ n + 1 := by rw [← hkk.out]; omega
                have hkc : (kk : Int) ≤ (sc : Int) := by omega
                have hkn3 : (kk : Int) ≤ ((n + 1 : Nat) : Int) := by omega
                have hkb : kk ≤ 1000 := by omega
                have hw : IntKind.i64.wrap ((kk : Int) - 4) = (kk : Int) - 4 := IntWalk.i64_in _ ⟨by omega, by omega⟩
                go_upto_region 14 with (fail)
                go_cut [4, 66, 67] (fun s4 _ _ wx => wx = wd ∧ s4 = .int .i64 kk)
                case first =>
                  have := hkk.out
                  go_wp2
                  all_goals go_meet
                  all_goals exact ⟨rfl, val_int (by omega)⟩
                case rest =>
                obtain ⟨rfl, rfl⟩ := hcut
                have hrow : rows rcell rs ++ [.int .i64 (x), .int .i64 (0), .int .i64 (0), .int .i64 (16), .int .i64 (2), .int .i64 ((kk : Int) - 4)] = rows rcell (rs ++ [(⟨x, 0, 0⟩ : Run), (⟨16, 2, (kk : Int) - 4⟩ : Run)]) := by rw [rows_append]; rfl
                have hfin : (rs ++ [(⟨x, 0, 0⟩ : Run), (⟨16, 2, (kk : Int) - 4⟩ : Run)]) ++ runsN (n + 1 - (kk)) ((x :: t).drop (kk)) = R := by rw [← hRs2]; exact List.append_assoc _ _ _
                have hql2 : Hid ((rs ++ [(⟨x, 0, 0⟩ : Run), (⟨16, 2, (kk : Int) - 4⟩ : Run)]).length = q + 2) := Lib.hid (by rw [List.length_append, hql.out]; rfl)
                have htail := rd_tailK HU.out (k := kk) (by omega)
                have HROW := Lib.hid hrow
                have HFIN := Lib.hid hfin
                have HTAIL := Lib.hid htail
                have hXl2 : Hid (((x :: t).drop (kk)).length = n + 1 - (kk)) := Lib.hid (by rw [List.length_drop, hXl.out])
                clear hrow hfin htail hRs2
                go_wp2_with (at_builtin; refine wpList_append_many rfl _ _ rfl Try.underlying97 runInfo rfl (by decide) rfl H (news := [.int .i64 (x), .int .i64 (0), .int .i64 (0), .int .i64 (16), .int .i64 (2), .int .i64 ((kk : Int) - 4)]) rfl rfl (Nat.le_of_ble_eq_true rfl) rfl (by simp [Value.oneCell']) (by omega) (by omega) ?_; clear H c1; intro v' w' H; rw [HROW.out] at H; obtain ⟨ra2, rc2, rfl, -⟩ := H.rd.shape)
                go_roundw
                case rel => exact ⟨_, _, _, _, HTAIL, hXl2, by omega, by omega, HFIN, hql2, H⟩
                case measure => simp [sliceLen] <;> omega

              · rw [if_neg hC] at hRs2
                rw [show runsN n t = runsN n ((x :: t).drop 1) from rfl, hrest 1 (by omega)] at hRs2
                have hCI : ¬ (3 : Int) < (k : Int) := by omega
                have h10 : ¬ (10 : Int) < (k : Int) := by omega
                by_cases hx : x = 0
                · subst hx
                  have h2 : ¬ (2 : Int) < (k : Int) := by omega
                  clear hA hB
                  have hrow : rows rcell rs ++ [.int .i64 (0), .int .i64 (0), .int .i64 (0)] = rows rcell (rs ++ [(⟨0, 0, 0⟩ : Run)]) := by rw [rows_append]; rfl
                  have hfin : (rs ++ [(⟨0, 0, 0⟩ : Run)]) ++ runsN (n + 1 - (1)) ((0 :: t).drop (1)) = R := by rw [← hRs2]; exact List.append_assoc _ _ _
                  have hql2 : Hid ((rs ++ [(⟨0, 0, 0⟩ : Run)]).length = q + 1) := Lib.hid (by rw [List.length_append, hql.out]; rfl)
                  have htail := rd_tailK HU.out (k := 1) (by omega)
                  have HROW := Lib.hid hrow
                  have HFIN := Lib.hid hfin
                  have HTAIL := Lib.hid htail
                  have hXl2 : Hid (((0 :: t).drop (1)).length = n + 1 - (1)) := Lib.hid (by rw [List.length_drop, hXl.out])
                  clear hrow hfin htail hRs2
                  go_wp2_with (at_builtin; refine wpList_append_one rfl _ _ rfl Try.underlying97 runInfo rfl (by decide) rfl H (news := [.int .i64 (0), .int .i64 (0), .int .i64 (0)]) rfl rfl rfl (by simp [Value.oneCell']) (by omega) (by omega) ?_; clear H c1; intro v' w' H; rw [HROW.out] at H; obtain ⟨ra2, rc2, rfl, -⟩ := H.rd.shape)
                  go_roundw
                  case rel => exact ⟨_, _, _, _, HTAIL, hXl2, by omega, by omega, HFIN, hql2, H⟩
                  case measure => simp [sliceLen] <;> omega

                · have hxb : (x == 0) = false := by simpa using hx
                  clear hA hB
                  have hrow : rows rcell rs ++ [.int .i64 (x), .int .i64 (0), .int .i64 (0)] = rows rcell (rs ++ [(⟨x, 0, 0⟩ : Run)]) := by rw [rows_append]; rfl
                  have hfin : (rs ++ [(⟨x, 0, 0⟩ : Run)]) ++ runsN (n + 1 - (1)) ((x :: t).drop (1)) = R := by rw [← hRs2]; exact List.append_assoc _ _ _
                  have hql2 : Hid ((rs ++ [(⟨x, 0, 0⟩ : Run)]).length = q + 1) := Lib.hid (by rw [List.length_append, hql.out]; rfl)
                  have htail := rd_tailK HU.out (k := 1) (by omega)
                  have HROW := Lib.hid hrow
                  have HFIN := Lib.hid hfin
                  have HTAIL := Lib.hid htail
                  have hXl2 : Hid (((x :: t).drop (1)).length = n + 1 - (1)) := Lib.hid (by rw [List.length_drop, hXl.out])
                  clear hrow hfin htail hRs2
                  go_wp2_with (at_builtin; refine wpList_append_one rfl _ _ rfl Try.underlying97 runInfo rfl (by decide) rfl H (news := [.int .i64 (x), .int .i64 (0), .int .i64 (0)]) rfl rfl rfl (by simp [Value.oneCell']) (by omega) (by omega) ?_; clear H c1; intro v' w' H; rw [HROW.out] at H; obtain ⟨ra2, rc2, rfl, -⟩ := H.rd.shape)
                  go_roundw
                  case rel => exact ⟨_, _, _, _, HTAIL, hXl2, by omega, by omega, HFIN, hql2, H⟩
                  case measure => simp [sliceLen] <;> omega

    · have hn0 : n = 0 := by omega
      subst hn0
      have hRR : rs = R := by
        rw [← hRs.out]; simp [runsN]
      subst hRR
      have h0I : ¬ (0 : Int) < ((0 : Nat) : Int) := by omega
      go_wp2_with fail
      go_ret
      exact ⟨_, rfl, by rw [hql.out]; exact H⟩
end Go.Proofs.Ytpbodonmiepilaa
/- slices.Repeat: the walks of the product of two words, the first 1. -/
namespace Go.Proofs.Ytpbodonmiepilaa
open Go.RowKit

theorem u64_mask (k : Nat) (h : k ≤ 1000000) : bits .and .u64 (k : Int) 4294967295 = (k : Int) := by
  have key : IntKind.u64.wrap ((BitVec.ofInt 64 (k : Int) &&& BitVec.ofInt 64 ((4294967295 : Nat) : Int)).toNat : Int) = (k : Int) := by
    rw [BitVec.ofInt_natCast, BitVec.ofInt_natCast, BitVec.toNat_and, BitVec.toNat_ofNat, BitVec.toNat_ofNat, Nat.mod_eq_of_lt (by omega), Nat.mod_eq_of_lt (by omega)]
    have := Nat.and_two_pow_sub_one_eq_mod k 32
    rw [show 2 ^ 32 - 1 = 4294967295 by decide] at this
    rw [this, Nat.mod_eq_of_lt (by omega)]
    exact IntWalk.u64_in _ ⟨by omega, by omega⟩
  exact key
set_option maxRecDepth 100000 in
theorem mul64_any (k : Nat) (h : k ≤ 1000000) (w : World) :
    Calls Try.prog 95 #[.int .u64 1, .int .u64 k] w (Ret fun r w' => r = .tuple #[.int .u64 0, .int .u64 k] ∧ Own w w' []) := by
  have H := Own.start w
  have h1 := u64_mask k h
  have h2 : bits .and .u64 1 4294967295 = 1 := by decide
  have h3 : (k : Int) / 4294967296 = 0 := by omega
  go_enter Try.func95, Try.ntmps95
  go_wp2_with fail
  go_ret2
  exact ⟨_, rfl, rfl, H⟩
theorem mul_any (k : Nat) (h : k ≤ 1000000) (w : World) :
    Calls Try.prog 76 #[.int .u64 1, .int .u64 k] w (Ret fun r w' => r = .tuple #[.int .u64 0, .int .u64 k] ∧ Own w w' []) := by
  have H := Own.start w
  have h2 := mul64_any k h
  go_enter Try.func76, Try.ntmps76
  go_wp2_with fail
  refine (h2 _).mono ?_
  rintro e w2 ⟨_, rfl, rfl, H2⟩
  have H := H.join H2
  go_wp2_with fail
  go_ret2
  exact ⟨_, rfl, rfl, H⟩
end Go.Proofs.Ytpbodonmiepilaa
/- copy into a row of the call's own; slices.Repeat of one int. -/
namespace Go.Proofs.Ytpbodonmiepilaa
open Go.RowKit

section
variable {w0 w w' : World} {ps : List Piece} {e : TypeId} {n : Nat} {xs : List Value}
variable {P : Program} {ops : Array Oper} {rest : List Oper} {o : Oper} {a : Act} {Q : Exit → Act → World → Prop}
theorem wpList_copy_slc (hgd : o.guard = none) (d s : Operand) (dT sT : TypeId) (ho : o.op = .call { callee := .builtin .copy, args := #[d, s], argTypes := #[dT, sT] })
    (hu : P.underlying dT = some (.slice e)) (hsz : (P.info? e).map (·.size) = some 1) {g c : Nat} (H : Own w0 w (slc e 1 (.slice (some ⟨g, 0, none⟩) n c) n xs :: ps))
    (dp sp : Option Addr) (dLen dCap sLen sCap : Nat) (hd : a.eval d = .slice dp dLen dCap) (hs : a.eval s = .slice sp sLen sCap)
    (off m : Nat) (cs : List Value) (hm : cs.length = m) (hn : m = Nat.min sLen dLen) (hpos : 0 < m → dp = some ⟨g, off, none⟩ ∧ ∃ ad, sp = some ad ∧ ∀ j v, cs[j]? = some v → w.cell? (ad.add j) = some v)
    (hfit : off + m ≤ n) (h1 : ∀ v ∈ cs, v.oneCell' = true)
    (h : ∀ w', Own w0 w' (slc e 1 (.slice (some ⟨g, 0, none⟩) n c) n (splice xs off cs) :: ps) → wpList P ops Q rest (a.put o.dst (.int .i64 m)) w') : wpList P ops Q (o :: rest) a w := by
  subst hm
  by_cases h0 : cs.length = 0
  · obtain rfl : cs = [] := List.eq_nil_of_length_eq_zero h0
    refine wpList_copy_nothing hgd d s dT sT ho e hu hsz dp sp dLen dCap sLen sCap hd hs (by simpa using hn.symm) ?_
    exact h w (by simpa [splice] using H)
  · obtain ⟨rfl, ad, rfl, hsrc⟩ := hpos (by omega)
    rcases H.slc_cases with ⟨hv, _⟩ | ⟨g', cap, cur, he, hl, c1, c2, c3, c4, h5⟩
    · cases hv
    · cases he
      refine wpList_copy_own hgd d s dT sT ho e hu hsz g off dLen dCap ad sLen sCap hd hs cur e h5.block.1 cs hn hsrc (by omega) h1 ?_
      refine h _ ((h5.setRow (cur' := (cur.toList.take off ++ (cs ++ cur.toList.drop (off + cs.length))).toArray)).slc_mk ?_ c1 c2 ?_ ?_)
      · rw [length_splice _ _ _ (by omega)]; exact hl
      · simp only [List.size_toArray, List.length_append, List.length_take, List.length_drop, Array.length_toList]; omega
      · have hcl : cur.toList.length = cur.size := by simp
        unfold splice
        rw [← c4, List.toList_toArray, Nat.mul_one, List.take_append, List.take_append, List.take_take, List.drop_take, List.length_take, Nat.min_eq_left (show off ≤ cur.toList.length by omega), List.take_take,
          Nat.min_eq_right (show off ≤ n by omega), List.take_of_length_le (l := cs) (by omega), Nat.min_eq_left (show off ≤ n by omega), show n - off - cs.length = n - (off + cs.length) by omega]
end

theorem rep_splice (a : Int) {k n m : Nat} (h : n + m ≤ k) : splice (nums (List.replicate n a ++ List.replicate (k - n) 0)) n (nums (List.replicate m a)) = nums (List.replicate (n + m) a ++ List.replicate (k - (n + m)) 0) := by
  unfold splice nums
  rw [List.map_append, List.map_append, List.take_left' (by simp), List.drop_append, List.drop_eq_nil_of_le (by simp), List.nil_append]
  simp only [List.map_replicate, List.length_replicate, List.drop_replicate]
  rw [← List.append_assoc, List.replicate_append_replicate, show k - n - (n + m - n) = k - (n + m) by omega]

set_option maxRecDepth 100000 in
set_option maxHeartbeats 1600000 in
theorem repeat_any {w : World} {v : Value} {a : Int} (k : Nat) (hr : Rd w 1 v 1 (nums [a])) (hk : k ≤ 1000000) :
    Calls Try.prog 52 #[v, .int .i64 k] w (Ret fun r w' => Own w w' [slc 3 1 r k (nums (List.replicate k a))]) := by
  have H := Own.start w
  obtain ⟨b, o, c, rfl, hc1, hc2⟩ := hr.some (by simp [nums])
  have c0 := hr.cell (u := .int .i64 a) (j := 0) rfl
  have HC0 := Lib.hid c0
  clear hr c0
  have hmul := mul_any k hk
  have HM := Lib.hid hmul
  clear hmul
  have hkI : (k : Int) ≤ 9223372036854775807 := by omega
  have hkw : IntKind.u64.wrap (k : Int) = (k : Int) := IntWalk.u64_in _ ⟨by omega, by omega⟩
  have hkw2 : IntKind.i64.wrap (k : Int) = (k : Int) := IntWalk.i64_in _ ⟨by omega, by omega⟩
  have hmk : ∀ w : World, (Instr.makeSlice 22 (.int .i64 k) (.int .i64 k)).run Try.prog w = .ok (.slice (some ⟨w.heap.size, 0, none⟩) k k) (w.alloc (.cells (madeCells #[.int .i64 0] k) 3)) := run_make_row' _ _ _ 8 Try.underlying22 intInfo rfl .i64 .i64 k (by omega) (by omega)
  go_enter Try.func52, Try.ntmps52
  go_wp2_with fail
  refine (HM.out _).mono ?_
  rintro e w2 ⟨_, rfl, rfl, H2⟩
  have H := H.join H2
  clear H2
  go_upto_region 7 with (fail)
  have h1 := H.alloc (.cells (madeCells #[.int .i64 0] k) 3)
  have H : Own w (w2.alloc (.cells (madeCells #[.int .i64 0] k) 3)) [slc 3 1 (.slice (some ⟨w2.heap.size, 0, none⟩) k k) k (nums (List.replicate 0 a ++ List.replicate (k - 0) 0))] :=
    h1.slc_mk (by simp [nums]) (Nat.le_refl _) (by simp [maxLen]; omega) (by simp [size_madeCells]) (by rw [toList_madeCells_one]; simp [nums])
  have c0 := (show (w2.alloc (.cells (madeCells #[.int .i64 0] k) 3)).cell? ⟨b, o + 0, none⟩ = some (.int .i64 a) by rw [H.oldCell (World.block_lt_of_cell? _ _ HC0.out)]; exact HC0.out)
  clear h1
  generalize w2.alloc (.cells (madeCells #[.int .i64 0] k) 3) = w3 at *
  obtain ⟨g, hg⟩ : ∃ g, w2.heap.size = g := ⟨_, rfl⟩
  rw [hg] at H ⊢
  clear hg hmk HM
  have hsrc : ∀ j v, (nums (List.replicate (min k 1) a))[j]? = some v → w3.cell? ((⟨b, o, none⟩ : Addr).add j) = some v := fun j v hj => by
    have hlt := (List.getElem?_eq_some_iff.1 hj).1
    rw [nums_length, List.length_replicate] at hlt
    have : j = 0 := by omega
    subst this
    rw [Addr.add_lit, c0]
    have hk1 : min k 1 = 1 := by omega
    rw [hk1] at hj
    exact hj
  obtain ⟨m1, hm1⟩ : ∃ m1, Hid (min k 1 = m1) := ⟨_, rfl⟩
  have hmin : m1 = Nat.min 1 k := by rw [← hm1.out]; show min k 1 = min 1 k; omega
  rw [hm1.out] at hsrc
  have HS := Lib.hid hsrc
  have HMIN := Lib.hid hmin
  have hm1k : m1 ≤ k := by rw [← hm1.out]; omega
  have hm10 : 1 ≤ k → 1 ≤ m1 := fun h => by rw [← hm1.out]; omega
  have HP := Lib.hid hm10
  have HONE : Hid (∀ m : Nat, ∀ v ∈ nums (List.replicate m a), v.oneCell' = true) := Lib.hid (fun m v hv => by
    unfold nums at hv; obtain ⟨x, _, rfl⟩ := List.mem_map.1 hv; rfl)
  clear c0 hsrc hmin hm10
  go_wp2_with (refine wpList_copy_slc rfl _ _ _ _ rfl Try.underlying22 (by kernel_rfl) H _ _ _ _ _ _ rfl rfl 0 m1 (nums (List.replicate m1 a)) (by simp [nums]) HMIN.out (fun h => ⟨rfl, _, rfl, HS.out⟩) (by omega) (HONE.out m1) ?_; clear H; intro w4 H; rw [rep_splice a (by omega), Nat.zero_add] at H)
  go_loopw [8] (fun s8 wx => ∃ n : Nat, s8 = .int .i64 n ∧ n ≤ k ∧ (1 ≤ k → 1 ≤ n) ∧ Own w wx [slc 3 1 (.slice (some ⟨g, 0, none⟩) k k) k (nums (List.replicate n a ++ List.replicate (k - n) 0))]) (fun s8 _ => k - (intOf s8).toNat)
  case atStart => exact ⟨m1, by go_num, hm1k, HP.out, H⟩
  case round =>
    clear H
    obtain ⟨n, rfl, hn, hn1, H⟩ := hrel
    by_cases hlt : n < k
    · have hI : (n : Int) < (k : Int) := by omega
      have hn1 := hn1 (by omega)
      obtain ⟨m, hm⟩ : ∃ m, Hid (min n (k - n) = m) := ⟨_, rfl⟩
      have hm1 : 1 ≤ m := by rw [← hm.out]; omega
      have hmk : n + m ≤ k := by rw [← hm.out]; omega
      have hmn : m ≤ n := by rw [← hm.out]; omega
      have hmin : m = Nat.min n (k - n) := hm.out.symm
      have HMIN2 := Lib.hid hmin
      have hsub : ((k : Int) - (n : Int)) = ((k - n : Nat) : Int) := by omega
      clear hmin
      have hcut : (n : Int) ≤ (k : Int) := by omega
      have hn0 : n ≠ 0 := by omega
      have hkn : k ≠ n := by omega
      go_upto_region 9 with (fail)
      refine wp_region_pres (fun σ w1 => Own w w1 [slc 3 1 (.slice (some ⟨g, 0, none⟩) k k) k (nums (List.replicate n a ++ List.replicate (k - n) 0))]) 7 [] [0] (by kernel_rfl) (by kernel_rfl) (by kernel_rfl) (by kernel_rfl) (fun _ _ d _ _ h => by cases d <;> exact h) ⟨_, _, rfl, fun w => (by first | rfl | (go_simp; rfl)), rfl⟩ H.drew ?_
      simp only [List.take_succ_cons, List.take_zero, List.drop_succ_cons, List.drop_zero]
      repeat
        first
        | (refine calm_value (v := ?_) (by decide) rfl (fun σ w1 hS => ?_) ?_
           rotate_left
           · skip
             first | (go_simp; rfl) | rfl
           simp only [Act.put, List.setIfInBounds_toArray, List.set_cons_zero, List.set_cons_succ])
        | (refine calm_skip (by decide) rfl ?_
           simp only [Act.put, List.setIfInBounds_toArray, List.set_cons_zero, List.set_cons_succ])
      refine calm_nil ?_
      intro σ wd hσ HD
      clear H
      simp only [putNew, List.foldl_nil]
      have hsrc : ∀ j v, (nums (List.replicate m a))[j]? = some v → wd.cell? ((⟨g, 0, none⟩ : Addr).add j) = some v := fun j v hj => by
        have hlt := (List.getElem?_eq_some_iff.1 hj).1
        rw [nums_length, List.length_replicate] at hlt
        rw [Addr.add_lit]
        refine HD.rd.cell ?_
        unfold nums at hj ⊢
        rw [List.map_append, List.getElem?_append_left (by simp; omega), ← hj]
        simp only [List.map_replicate, List.getElem?_replicate]
        rw [if_pos (by omega), if_pos hlt]
      have HS2 := Lib.hid hsrc
      have hnm : IntKind.i64.wrap ((n : Int) + (m : Int)) = ((n + m : Nat) : Int) := by rw [Int.natCast_add]; exact IntWalk.i64_in _ ⟨by omega, by omega⟩
      clear hsrc
      go_wp2_with (refine wpList_copy_slc rfl _ _ _ _ rfl Try.underlying22 (by kernel_rfl) HD _ _ _ _ _ _ rfl rfl n m (nums (List.replicate m a)) (by simp [nums]) HMIN2.out (fun h => ⟨rfl, _, rfl, HS2.out⟩) (by omega) (HONE.out m) ?_; clear HD; intro w6 H; rw [rep_splice a (by omega)] at H)
      go_roundw
      case rel => exact ⟨n + m, by go_num, by omega, fun _ => by omega, H⟩
      case measure => simp [intOf]; omega
    · have hI : ¬ (n : Int) < (k : Int) := by omega
      obtain rfl : n = k := by omega
      rw [Nat.sub_self, List.replicate_zero, List.append_nil] at H
      go_wp2_with fail
      go_ret
      exact ⟨_, rfl, H⟩
end Go.Proofs.Ytpbodonmiepilaa
/- slices.Grow of nil, slices.Concat: the walks. -/
namespace Go.Proofs.Ytpbodonmiepilaa
open Go.RowKit

set_option maxRecDepth 100000 in
theorem grow_any (n : Nat) (hn : n ≤ 1000000) (w : World) :
    Calls Try.prog 75 #[.slice none 0 0, .int .i64 n] w (Ret fun r w' => Own w w' [slc 3 1 r 0 []]) := by
  have H := Own.start w
  by_cases h0 : n = 0
  · subst h0
    have H := H.nil 3 1
    go_enter Try.func75, Try.ntmps75
    go_wp2_with fail
    go_ret
    exact ⟨_, rfl, H⟩
  · have hI : (n : Int) > 0 := by omega
    obtain ⟨i, hi, hz, hsize, hby⟩ := info_parts intInfo
    have hap : ∀ (w : World) (ty : TypeId) (t2 : TypeId), Try.prog.underlying t2 = some (.int .i64) → (Builtin.append_ #[22, t2] ty #[.slice none 0 0, .int .i64 n]).run Try.prog w = .ok (.slice (some ⟨w.heap.size, 0, none⟩) n (grownCap w n 0 3)) (w.drew.alloc (.cells (Builtin.zeroCells (Value.int .i64 0).cells n ++ Builtin.zeroCells (Value.int .i64 0).cells (grownCap w n 0 3 - n)) 3)) := fun w ty t2 ht2 =>
      Lib.run_append_nil_zeros w 22 t2 ty 3 i (.int .i64 0) .i64 .i64 Try.underlying22 ht2 hi hz n (by omega) (by omega) (by omega) (by rw [hby]; omega)
    have HA := Lib.hid hap
    have hge := grownCap_ge w n 0 3
    have hle := grownCap_le_maxLen w n 0 3 (by simp [maxLen]; omega)
    have H2 : Own w (w.drew.alloc (.cells (Builtin.zeroCells (Value.int .i64 0).cells n ++ Builtin.zeroCells (Value.int .i64 0).cells (grownCap w n 0 3 - n)) 3)) [slc 3 1 (.slice (some ⟨w.heap.size, 0, none⟩) 0 (grownCap w n 0 3)) 0 []] := by
      have h1 := H.drew.alloc (.cells (Builtin.zeroCells (Value.int .i64 0).cells n ++ Builtin.zeroCells (Value.int .i64 0).cells (grownCap w n 0 3 - n)) 3)
      exact h1.slc_mk (by simp) (Nat.zero_le _) hle (by simp [size_zeroCells, Value.cells]; omega) (by simp)
    clear hap
    go_enter Try.func75, Try.ntmps75
    go_wp2_with (at_builtin; refine Lib.wpList_append_run _ rfl _ _ _ _ rfl _ _ rfl rfl _ _ (HA.out _ _ _ (by kernel_rfl)) ?_; clear H; generalize w.drew.alloc _ = w2 at *; generalize grownCap w n 0 3 = gc at *)
    go_ret
    exact ⟨_, rfl, H2⟩

/-- How many ints the first k lists have. -/
def flatN (Ls : List (List Int)) (k : Nat) : List Int := (Ls.take k).flatten
theorem flatN_succ {Ls : List (List Int)} {k : Nat} {L : List Int} (h : Ls[k]? = some L) : flatN Ls (k + 1) = flatN Ls k ++ L := by
  unfold flatN
  rw [List.take_add_one, h, List.flatten_append]
  simp
theorem flatN_le (Ls : List (List Int)) (k : Nat) : (flatN Ls k).length ≤ Ls.flatten.length := by
  unfold flatN
  conv => rhs; rw [← List.take_append_drop k Ls, List.flatten_append, List.length_append]
  omega
set_option maxRecDepth 100000 in
set_option maxHeartbeats 1600000 in
theorem concat_any {w : World} {v : Value} {m : Nat} (Ls : List (List Int)) (vs : List Value) (hr : Rd w 1 v m vs) (hl : vs.length = m) (hLl : Ls.length = m) (hm : m ≤ 1000)
    (hall : ∀ (k : Nat) (u : Value) (L : List Int), vs[k]? = some u → Ls[k]? = some L → Rd w 1 u L.length (nums L)) (hN : Ls.flatten.length ≤ 100000) :
    Calls Try.prog 51 #[v] w (Ret fun r w' => Own w w' [slc 3 1 r Ls.flatten.length (nums Ls.flatten)]) := by
  have H := Own.start w
  obtain ⟨a, c, rfl, hc1, hc2⟩ := hr.shape
  have HR := Lib.hid hr
  have HALL := Lib.hid hall
  have HL := Lib.hid hl
  have HLL := Lib.hid hLl
  clear hr hall hl hLl
  have hg : ∀ (n : Nat), n ≤ 1000000 → ∀ w, Calls Try.prog 75 #[.slice none 0 0, .int .i64 n] w (Ret fun r w' => Own w w' [slc 3 1 r 0 []]) := fun n hn w => grow_any n hn w
  have HG := Lib.hid hg
  clear hg
  obtain ⟨N, hNN⟩ : ∃ N, Hid (Ls.flatten.length = N) := ⟨_, rfl⟩
  rw [hNN.out] at hN ⊢
  obtain ⟨FL, hFL⟩ : ∃ FL, Hid (Ls.flatten = FL) := ⟨_, rfl⟩
  rw [hFL.out]
  go_enter Try.func51, Try.ntmps51
  go_wp2_with fail
  go_loopw [3, 11] (fun s3 s11 wx => ∃ k q : Nat, s11 = .int .i64 k ∧ k ≤ m ∧ s3 = .int .i64 q ∧ Hid ((flatN Ls k).length = q) ∧ q ≤ 100000 ∧ Own w wx []) (fun _ s11 _ => m - (intOf s11).toNat)
  case atStart => exact ⟨0, 0, by go_num, by omega, by go_num, Lib.hid (by simp [flatN]), by omega, H⟩
  case round =>
    clear H
    obtain ⟨k, q, rfl, hk, rfl, hq, hqN, H⟩ := hrel
    by_cases hlt : k < m
    · have hI : (k : Int) < (m : Int) := by omega
      obtain ⟨u, hu⟩ := get_of_lt (l := vs) (k := k) (by have := HL.out; omega)
      obtain ⟨L, hL⟩ := get_of_lt (l := Ls) (k := k) (by have := HLL.out; omega)
      obtain ⟨b, o, _, he, -⟩ := HR.out.some (by have := HL.out; omega)
      cases he
      have c0 := (HR.out.old H).cell hu
      have hu2 := HALL.out k u L hu hL
      obtain ⟨ua, uc, rfl, huc1, huc2⟩ := hu2.shape
      have hs := flatN_succ hL
      have hle := flatN_le Ls (k + 1)
      rw [hNN.out] at hle
      have hq2 : Hid ((flatN Ls (k + 1)).length = q + L.length) := Lib.hid (by rw [hs, List.length_append, hq.out])
      have hb : q + L.length ≤ 100000 := by have := hq2.out; omega
      obtain ⟨x, hx⟩ : ∃ x, Hid (L.length = x) := ⟨_, rfl⟩
      rw [hx.out] at hb hq2 huc1 c0
      have hw : IntKind.i64.wrap ((q : Int) + (x : Int)) = (q : Int) + (x : Int) := IntWalk.i64_in _ ⟨by omega, by omega⟩
      have hnn : ¬ ((q : Int) + (x : Int) < 0) := by omega
      clear hu hL hu2 hs hle
      go_wp2_with fail
      go_roundw
      case rel => exact ⟨k + 1, q + x, by go_num, by omega, by go_num, hq2, hb, H⟩
      case measure => simp [intOf]; omega
    · have hI : ¬ (k : Int) < (m : Int) := by omega
      go_wp2_with fail
      refine (HG.out q (by omega) _).mono ?_
      rintro e w2 ⟨v6, rfl, H2⟩
      have H := H.join H2
      clear H2
      obtain ⟨a6, c6, rfl, -⟩ := H.rd.shape
      go_wp2_with fail
      go_loopw [6, 27] (fun s6 s27 wx => ∃ k q : Nat, s27 = .int .i64 k ∧ k ≤ m ∧ Hid ((flatN Ls k).length = q) ∧ q ≤ 100000 ∧ Own w wx [slc 3 1 s6 q (nums (flatN Ls k))]) (fun _ s27 _ => m - (intOf s27).toNat)
      case atStart => exact ⟨0, 0, by go_num, by omega, Lib.hid (by simp [flatN]), by omega, H⟩
      case round =>
        clear H hq hqN
        obtain ⟨k, q, rfl, hk, hq, hqN, H⟩ := hrel
        rename_i v6 _
        obtain ⟨a6, c6, rfl, -⟩ := H.rd.shape
        by_cases hlt : k < m
        · have hI : (k : Int) < (m : Int) := by omega
          obtain ⟨u, hu⟩ := get_of_lt (l := vs) (k := k) (by have := HL.out; omega)
          obtain ⟨L, hL⟩ := get_of_lt (l := Ls) (k := k) (by have := HLL.out; omega)
          obtain ⟨b, o, _, he, -⟩ := HR.out.some (by have := HL.out; omega)
          cases he
          have c0 := (HR.out.old H).cell hu
          have hu2 := HALL.out k u L hu hL
          obtain ⟨ua, uc, rfl, huc1, huc2⟩ := hu2.shape
          have hs := flatN_succ hL
          have hle := flatN_le Ls (k + 1)
          rw [hNN.out] at hle
          obtain ⟨x, hx⟩ : ∃ x, Hid (L.length = x) := ⟨_, rfl⟩
          have hq2 : Hid ((flatN Ls (k + 1)).length = q + x) := Lib.hid (by rw [hs, List.length_append, hq.out, hx.out])
          have hb : q + x ≤ 100000 := by have := hq2.out; omega
          have hold := hu2.old H
          rw [hx.out] at huc1 c0 hold
          have HS := Lib.hid (show nums (flatN Ls k) ++ nums L = nums (flatN Ls (k + 1)) by rw [hs]; simp [nums])
          have HO := Lib.hid hold
          have H1 : Hid (∀ v ∈ nums L, v.oneCell' = true) := Lib.hid (fun v hv => by unfold nums at hv; obtain ⟨x, _, rfl⟩ := List.mem_map.1 hv; rfl)
          clear hu hL hu2 hs hle hold
          go_wp2_with (at_builtin; refine wpList_append_sep rfl _ _ rfl Try.underlying22 intInfo rfl (by decide) rfl H HO.out H1.out (by omega) (by omega) ?_; clear H c0; intro v' w' H; rw [HS.out] at H; obtain ⟨a8, c8, rfl, -⟩ := H.rd.shape)
          go_roundw
          case rel => exact ⟨k + 1, q + x, by go_num, by omega, hq2, hb, H⟩
          case measure => simp [intOf]; omega
        · have hI : ¬ (k : Int) < (m : Int) := by omega
          have hfl : flatN Ls k = Ls.flatten := by unfold flatN; rw [List.take_of_length_le (by have := HLL.out; omega)]
          have hqq : q = N := by rw [← hq.out, hfl, hNN.out]
          subst hqq
          rw [hfl, hFL.out] at H
          clear hfl hq
          go_wp2_with fail
          go_ret
          exact ⟨_, rfl, H⟩
end Go.Proofs.Ytpbodonmiepilaa
/- The stable sort of slices of ints: the walks of swapRange, rotate. (Written by tools/srt.py.) -/
namespace Go.Proofs.Ytpbodonmiepilaa
open Go.RowKit

namespace SI
def ie (x : Int) : List Value := [.int .i64 x]
theorem e_length (x : Int) : (ie x).length = 1 := rfl
theorem e_one (x : Int) : ∀ u ∈ ie x, u.oneCell' = true := by intro u hu; simp [ie] at hu; subst hu; rfl
/-- A slice of them. -/
abbrev Sl (v : Value) (l : List Int) : Piece := slc 3 1 v l.length (rows ie l)
theorem el {w : World} {b c i n : Nat} {l : List Int} {x : Int} (h : Rd w 1 (.slice (some ⟨b, 0, none⟩) n c) n (rows ie l)) (hx : l[i]? = some x) :
    w.cell? ⟨b, i, none⟩ = some (.int .i64 x) ∧ True := by
  have h0 := h.cell ((rows_get ie e_length hx 0 (by omega)).trans rfl)
  rw [Nat.zero_add, Nat.mul_one] at h0
  exact ⟨h0, trivial⟩
theorem set_rows {l : List Int} {i : Nat} (hi : i < l.length) (y : Int) : (rows ie l).take (i * 1) ++ ie y ++ (rows ie l).drop (i * 1 + 1) = rows ie (l.set i y) := (rows_set ie e_length hi y).symm
theorem set_swap {α : Type} (u v w : List α) (x y : α) {i j : Nat} (hi : i = u.length) (hj : j = u.length + 1 + v.length) :
    ((u ++ x :: (v ++ y :: w)).set i y).set j x = u ++ y :: (v ++ x :: w) := by
  subst hi hj
  rw [List.set_append_right _ _ (Nat.le_refl _), Nat.sub_self, List.set_cons_zero, List.set_append_right _ _ (by omega), show u.length + 1 + v.length - u.length = v.length + 1 by omega, List.set_cons_succ, List.set_append_right _ _ (Nat.le_refl _), Nat.sub_self, List.set_cons_zero]
theorem get_mid {α : Type} (u w : List α) (x : α) {i : Nat} (hi : i = u.length) : (u ++ x :: w)[i]? = some x := by
  subst hi
  rw [List.getElem?_append_right (Nat.le_refl _), Nat.sub_self]; rfl

section
variable {w0 w : World} {ps : List Piece}
set_option maxRecDepth 100000 in
set_option maxHeartbeats 3200000 in
theorem swap_any {g c N : Nat} {p x m y q : List Int} {a b n : Nat} (cmp : Value) (ha : a = p.length) (hb : b = a + x.length + m.length) (hn : n = x.length) (hy : y.length = x.length) (hN : N = (p ++ x ++ m ++ y ++ q).length) (hNb : N ≤ 1000000)
    (H : Own w0 w (slc 3 1 (.slice (some ⟨g, 0, none⟩) N c) N (rows ie (p ++ x ++ m ++ y ++ q)) :: ps)) :
    Calls Try.prog 108 #[.slice (some ⟨g, 0, none⟩) N c, .int .i64 a, .int .i64 b, .int .i64 n, cmp] w (Ret fun _ w' => Own w0 w' (slc 3 1 (.slice (some ⟨g, 0, none⟩) N c) N (rows ie (p ++ y ++ m ++ x ++ q)) :: ps)) := by
  have hN1 : N = a + n + m.length + n + q.length := by rw [hN]; simp only [List.length_append]; omega
  have hbn : b = a + n + m.length := by omega
  have HX := Lib.hid hn
  have HY := Lib.hid hy
  have HP := Lib.hid ha
  have HB := Lib.hid hbn
  have HN1 := Lib.hid hN1
  have hab : a + n ≤ b := by omega
  have hbN : b + n ≤ N := by omega
  have hNc : N ≤ c := by obtain ⟨_, _, e, h1, _⟩ := H.rd.shape; cases e; exact h1
  have hc2 : c ≤ 9223372036854775807 := by obtain ⟨_, _, e, _, h1⟩ := H.rd.shape; cases e; exact h1
  clear ha hb hn hy hN hbn hN1
  go_enter Try.func108, Try.ntmps108
  go_wp2_with fail
  go_loopw [10] (fun s10 wx => ∃ (i : Nat) (x1 x2 y1 y2 : List Int), i ≤ n ∧ s10 = .int .i64 i ∧ Hid (x = x1 ++ x2) ∧ Hid (y = y1 ++ y2) ∧ Hid (x1.length = i) ∧ Hid (y1.length = i) ∧ Own w0 wx (slc 3 1 (.slice (some ⟨g, 0, none⟩) N c) N (rows ie (p ++ y1 ++ x2 ++ m ++ x1 ++ y2 ++ q)) :: ps)) (fun s10 _ => n - (intOf s10).toNat)
  case atStart => exact ⟨0, [], x, [], y, by omega, rfl, Lib.hid rfl, Lib.hid rfl, Lib.hid rfl, Lib.hid rfl, by simpa using H⟩
  case round =>
    clear H
    obtain ⟨i, x1, x2, y1, y2, hi, rfl, hx, hy, hx1, hy1, H⟩ := hrel
    by_cases hlt : i < n
    · obtain ⟨u, x3, hx2⟩ : ∃ u x3, x2 = u :: x3 := by
        cases x2 with
        | nil => exfalso; have h1 := hx.out; have h2 := HX.out; have h3 := hx1.out; rw [h1] at h2; simp at h2; omega
        | cons u x3 => exact ⟨u, x3, rfl⟩
      obtain ⟨v, y3, hy2⟩ : ∃ v y3, y2 = v :: y3 := by
        cases y2 with
        | nil => exfalso; have h1 := hy.out; have h2 := HX.out; have h3 := hy1.out; have h4 := HY.out; rw [h1] at h4; simp at h4; omega
        | cons v y3 => exact ⟨v, y3, rfl⟩
      subst hx2 hy2
      have el1 : p ++ y1 ++ u :: x3 ++ m ++ x1 ++ v :: y3 ++ q = (p ++ y1) ++ u :: ((x3 ++ m ++ x1) ++ v :: (y3 ++ q)) := by simp
      rw [el1] at H
      have hia : a + i = (p ++ y1).length := by rw [List.length_append, hy1.out, HP.out]
      have hxl : x.length = i + (x3.length + 1) := by rw [hx.out, List.length_append, hx1.out]; simp
      have hib : b + i = (p ++ y1).length + 1 + (x3 ++ m ++ x1).length := by
        have h1 := HX.out
        have h2 := HB.out
        have h3 := hx1.out
        have h4 := HP.out
        have h5 := hy1.out
        simp only [List.length_append]
        omega
      have hLn : ((p ++ y1) ++ u :: ((x3 ++ m ++ x1) ++ v :: (y3 ++ q))).length = N := by
        have h1 := HX.out
        have h2 := HN1.out
        have h3 := hx1.out
        have h4 := HP.out
        have h5 := hy1.out
        have h6 := HY.out
        rw [hy.out] at h6
        simp only [List.length_append, List.length_cons] at h6 ⊢
        omega
      have hg1 : ((p ++ y1) ++ u :: ((x3 ++ m ++ x1) ++ v :: (y3 ++ q)))[a + i]? = some u := get_mid _ _ _ hia
      have hg2 : ((p ++ y1) ++ u :: ((x3 ++ m ++ x1) ++ v :: (y3 ++ q)))[b + i]? = some v := by
        have : (p ++ y1) ++ u :: ((x3 ++ m ++ x1) ++ v :: (y3 ++ q)) = ((p ++ y1) ++ u :: (x3 ++ m ++ x1)) ++ v :: (y3 ++ q) := by simp
        rw [this]
        exact get_mid _ _ _ (by rw [hib]; simp only [List.length_append, List.length_cons]; omega)
      have hsw := set_swap (p ++ y1) (x3 ++ m ++ x1) (y3 ++ q) u v hia hib
      obtain ⟨L, hL⟩ : ∃ L, Hid ((p ++ y1) ++ u :: ((x3 ++ m ++ x1) ++ v :: (y3 ++ q)) = L) := ⟨_, rfl⟩
      rw [hL.out] at H hg1 hg2 hsw hLn
      have HG1 := Lib.hid hg1
      have HG2 := Lib.hid hg2
      have HLN := Lib.hid hLn
      have e1 : (rows ie L).take ((a + i) * 1) ++ ie v ++ (rows ie L).drop ((a + i) * 1 + 1) = rows ie (L.set (a + i) v) := set_rows (by rw [hLn]; omega) v
      have e2 : (rows ie (L.set (a + i) v)).take ((b + i) * 1) ++ ie u ++ (rows ie (L.set (a + i) v)).drop ((b + i) * 1 + 1) = rows ie (p ++ (y1 ++ [v]) ++ x3 ++ m ++ (x1 ++ [u]) ++ y3 ++ q) := by
        rw [set_rows (by rw [List.length_set, hLn]; omega) u, hsw]
        simp
      have E1 := Lib.hid e1
      have E2 := Lib.hid e2
      have hX' : Hid (x = (x1 ++ [u]) ++ x3) := Lib.hid (by rw [hx.out]; simp)
      have hY' : Hid (y = (y1 ++ [v]) ++ y3) := Lib.hid (by rw [hy.out]; simp)
      have hx1' : Hid ((x1 ++ [u]).length = i + 1) := Lib.hid (by rw [List.length_append, hx1.out]; rfl)
      have hy1' : Hid ((y1 ++ [v]).length = i + 1) := Lib.hid (by rw [List.length_append, hy1.out]; rfl)
      have haw : IntKind.i64.wrap ((a : Int) + (i : Int)) = (a : Int) + (i : Int) := IntWalk.i64_in _ ⟨by omega, by omega⟩
      have hbw : IntKind.i64.wrap ((b : Int) + (i : Int)) = (b : Int) + (i : Int) := IntWalk.i64_in _ ⟨by omega, by omega⟩
      have haT : ((a : Int) + (i : Int)).toNat = a + i := by omega
      have hbT : ((b : Int) + (i : Int)).toNat = b + i := by omega
      have haI : (a : Int) + (i : Int) < (N : Int) := by omega
      have hbI : (b : Int) + (i : Int) < (N : Int) := by omega
      clear hg1 hg2 hsw hLn e1 e2 el1 hia hib hxl hL
      go_upto_region 3 with (fail)
      refine wp_region_pres (fun _ w1 => Own w0 w1 (slc 3 1 (.slice (some ⟨g, 0, none⟩) N c) N (rows ie L) :: ps)) 20 [] [4, 5, 6, 7] (by kernel_rfl) (by kernel_rfl) (by kernel_rfl) (by kernel_rfl) (fun _ _ d _ _ h => by cases d <;> exact h) ⟨_, _, rfl, fun w => (by first | rfl | (go_simp; rfl)), _, _, rfl, fun w => (by first | rfl | (go_simp; rfl)), _, _, rfl, fun w => (by first | rfl | (go_simp; rfl)), _, _, rfl, fun w => (by first | rfl | (go_simp; rfl)), rfl⟩ H.drew ?_
      simp only [List.take_succ_cons, List.take_zero, List.drop_succ_cons, List.drop_zero]
      repeat
        first
        | (refine calm_value (v := ?_) (by decide) rfl (fun σ w1 hS => ?_) ?_
           rotate_left
           · obtain ⟨c1, c1'⟩ := el hS.rd HG1.out; obtain ⟨c2, c2'⟩ := el hS.rd HG2.out
             first | (go_simp; rfl) | rfl
           simp only [Act.put, List.setIfInBounds_toArray, List.set_cons_zero, List.set_cons_succ])
        | (refine calm_skip (by decide) rfl ?_
           simp only [Act.put, List.setIfInBounds_toArray, List.set_cons_zero, List.set_cons_succ])
      refine calm_nil ?_
      intro σ2 wd2 _ H2
      simp only [putNew, List.foldl_nil]
      clear H
      go_wp2_with (first
        | (refine wpList_store_elem rfl _ _ rfl (i := a + i) (by first | rfl | (rw [Nat.mul_one]; rfl)) H2 (ie v) rfl (by kernel_rfl) rfl (by omega) (e_one v) ?_; clear H2; intro w5 H; rw [E1.out] at H)
        | (refine wpList_store_elem rfl _ _ rfl (i := b + i) (by first | rfl | (rw [Nat.mul_one]; rfl)) H (ie u) rfl (by kernel_rfl) rfl (by omega) (e_one u) ?_; clear H; intro w6 H; rw [E2.out] at H))
      go_roundw
      case rel => exact ⟨i + 1, x1 ++ [u], x3, y1 ++ [v], y3, by omega, by go_num, hX', hY', hx1', hy1', H⟩
      case measure => simp [intOf]; omega
    · obtain rfl : i = n := by omega
      have hx2 : x2 = [] := by
        have h1 := HX.out; have h2 := hx1.out
        rw [hx.out, List.length_append] at h1
        exact List.eq_nil_of_length_eq_zero (by omega)
      have hy2 : y2 = [] := by
        have h1 := HX.out; have h2 := hy1.out; have h3 := HY.out
        rw [hy.out, List.length_append] at h3
        exact List.eq_nil_of_length_eq_zero (by omega)
      subst hx2 hy2
      have ex : x1 = x := by rw [hx.out, List.append_nil]
      have ey : y1 = y := by rw [hy.out, List.append_nil]
      have e : p ++ y1 ++ [] ++ m ++ x1 ++ [] ++ q = p ++ y ++ m ++ x ++ q := by rw [ex, ey]; simp
      rw [e] at H
      clear e ex ey
      go_wp2
      go_end0
      exact ⟨_, rfl, H⟩
end
end SI
end Go.Proofs.Ytpbodonmiepilaa
/- The stable sort of slices of ints: the walk of rotate. (Written by tools/srt.py.) -/
namespace Go.Proofs.Ytpbodonmiepilaa
open Go.RowKit
namespace SI
theorem split_at {α : Type} (l : List α) (n : Nat) (h : n ≤ l.length) : ∃ a b, l = a ++ b ∧ a.length = n := ⟨l.take n, l.drop n, (List.take_append_drop n l).symm, by simp; omega⟩
section
variable {w0 w : World} {ps : List Piece}
set_option maxRecDepth 100000 in
set_option maxHeartbeats 3200000 in
theorem rotate_any {g c N : Nat} {p x y q : List Int} {a m b : Nat} (cmp : Value) (ha : a = p.length) (hm : m = a + x.length) (hb : b = m + y.length) (hx0 : 0 < x.length) (hy0 : 0 < y.length) (hN : N = (p ++ x ++ y ++ q).length) (hNb : N ≤ 1000000)
    (H : Own w0 w (slc 3 1 (.slice (some ⟨g, 0, none⟩) N c) N (rows ie (p ++ x ++ y ++ q)) :: ps)) :
    Calls Try.prog 105 #[.slice (some ⟨g, 0, none⟩) N c, .int .i64 a, .int .i64 m, .int .i64 b, cmp] w (Ret fun _ w' => Own w0 w' (slc 3 1 (.slice (some ⟨g, 0, none⟩) N c) N (rows ie (p ++ y ++ x ++ q)) :: ps)) := by
  obtain ⟨T, hT⟩ : ∃ T, Hid (T = p ++ y ++ x ++ q) := ⟨_, Lib.hid rfl⟩
  rw [← hT.out]
  have hbN : b ≤ N := by rw [hN]; simp only [List.length_append]; omega
  obtain ⟨i0, hi0⟩ : ∃ i, Hid (x.length = i) := ⟨_, rfl⟩
  obtain ⟨j0, hj0⟩ : ∃ j, Hid (y.length = j) := ⟨_, rfl⟩
  rw [hi0.out] at hx0 hm
  rw [hj0.out] at hy0 hb
  have hNn : Hid ((p ++ x ++ y ++ q).length = N) := Lib.hid hN.symm
  have HP := Lib.hid ha
  have ham : m = a + i0 := hm
  have hbm : b = m + j0 := hb
  clear ha hN
  go_enter Try.func105, Try.ntmps105
  have e1 : ((m : Int) - (a : Int)) = (i0 : Int) := by omega
  have e2 : ((b : Int) - (m : Int)) = (j0 : Int) := by omega
  have hst : a + i0 = m ∧ m + j0 ≤ N := ⟨by omega, by omega⟩
  have HST := Lib.hid hst
  have ham2 : a ≤ m := by omega
  have hmb2 : m ≤ b := by omega
  have hbN2 : b ≤ N := by omega
  clear ham hm hst hb hbN hbm
  go_upto_region 2 with (fail)
  go_loopw [10, 11] (fun s10 s11 wx => ∃ (i j pl : Nat) (X Y P Q : List Int), s10 = .int .i64 i ∧ s11 = .int .i64 j ∧ 1 ≤ i ∧ 1 ≤ j ∧ pl + i = m ∧ m + j ≤ N ∧ Hid (X.length = i) ∧ Hid (Y.length = j) ∧ Hid (P.length = pl) ∧ Hid ((P ++ X ++ Y ++ Q).length = N) ∧ Hid (T = P ++ Y ++ X ++ Q) ∧ Own w0 wx (slc 3 1 (.slice (some ⟨g, 0, none⟩) N c) N (rows ie (P ++ X ++ Y ++ Q)) :: ps)) (fun s10 s11 _ => (intOf s10).toNat + (intOf s11).toNat)
  case atStart => exact ⟨i0, j0, a, x, y, p, q, by rw [← e1]; try go_num, by rw [← e2]; try go_num, by omega, by omega, HST.out.1, HST.out.2, hi0, hj0, Lib.hid HP.out.symm, hNn, hT, H⟩
  case round =>
    clear H hNn hT HP hi0 hj0 e1 e2
    obtain ⟨i, j, pl, X, Y, P, Q, rfl, rfl, hi, hj, hpl, hmj, hX, hY, hP, hLn, hT, H⟩ := hrel
    have em : ((m : Int) - (i : Int)) = (pl : Int) := by omega
    have hN1 : (m : Int) + (j : Int) ≤ (N : Int) := by omega
    rcases Nat.lt_trichotomy i j with hij | hij | hij
    · -- the first part is the shorter one
      obtain ⟨d, rfl⟩ : ∃ d, j = d + i := ⟨j - i, by omega⟩
      obtain ⟨bd, hbd⟩ : ∃ bd, bd = m + d := ⟨_, rfl⟩
      have eb : ((m : Int) + ((d + i : Nat) : Int) - (i : Int)) = (bd : Int) := by omega
      have eb' : ((m : Int) + ((d : Int) + (i : Int)) - (i : Int)) = (bd : Int) := by omega
      have ed : ((d : Int) + (i : Int) - (i : Int)) = (d : Int) := by omega
      obtain ⟨Y1, Y2, hYs, hY1⟩ := split_at Y d (by rw [hY.out]; omega)
      subst hYs
      have hY2 : Y2.length = i := by have := hY.out; rw [List.length_append] at this; omega
      have hne : ((i : Int) == ((d : Int) + (i : Int))) = false := by simp; omega
      have hng : ¬ ((d : Int) + (i : Int) < (i : Int)) := by omega
      have el1 : P ++ X ++ (Y1 ++ Y2) ++ Q = P ++ X ++ Y1 ++ Y2 ++ Q := by simp
      rw [el1] at H
      have hLn' : N = (P ++ X ++ Y1 ++ Y2 ++ Q).length := by rw [← el1]; exact hLn.out.symm
      have hNb' : N ≤ 1000000 := hNb
      have hsw := swap_any (w0 := w0) (w := wr) (ps := ps) (g := g) (c := c) (N := N) (p := P) (x := X) (m := Y1) (y := Y2) (q := Q) (a := pl) (b := bd) (n := i) cmp (by rw [hP.out]) (by rw [hX.out, hY1, hbd]; omega) (by rw [hX.out]) (by rw [hY2, hX.out]) hLn' hNb H
      have HSW := Lib.hid hsw
      have el2 : P ++ Y2 ++ Y1 ++ X ++ Q = P ++ Y2 ++ Y1 ++ (X ++ Q) := by simp
      have hT' : Hid (T = P ++ Y1 ++ Y2 ++ (X ++ Q)) := Lib.hid (by rw [hT.out]; simp)
      have hX' : Hid (Y2.length = i) := Lib.hid hY2
      have hY' : Hid (Y1.length = d) := Lib.hid hY1
      have hLn2 : Hid ((P ++ Y2 ++ Y1 ++ (X ++ Q)).length = N) := Lib.hid (by rw [hLn']; simp only [List.length_append]; omega)
      rw [el2] at HSW
      clear hsw el1 el2 hLn' hY1 hY2 hT hX hY hLn hbd
      go_wp2_with fail
      refine HSW.out.mono ?_
      rintro e w3 ⟨_, rfl, H3⟩
      clear HSW H
      go_wp2
      go_roundw
      case rel => exact ⟨i, d, pl, Y2, Y1, P, X ++ Q, rfl, by go_num, by omega, by omega, hpl, by omega, hX', hY', hP, hLn2, hT', H3⟩
      case measure => simp [intOf]; omega
    · subst hij
      have hLn' : N = (P ++ X ++ [] ++ Y ++ Q).length := by have := hLn.out; rw [← this]; simp
      have H' : Own w0 wr (slc 3 1 (.slice (some ⟨g, 0, none⟩) N c) N (rows ie (P ++ X ++ [] ++ Y ++ Q)) :: ps) := by simpa using H
      have hsw := swap_any (w0 := w0) (w := wr) (ps := ps) (g := g) (c := c) (N := N) (p := P) (x := X) (m := []) (y := Y) (q := Q) (a := pl) (b := m) (n := i) cmp (by rw [hP.out]) (by rw [hX.out]; simp; omega) (by rw [hX.out]) (by rw [hY.out, hX.out]) hLn' hNb H'
      have HSW := Lib.hid hsw
      clear hsw H' hLn'
      go_wp2_with fail
      refine HSW.out.mono ?_
      rintro e w3 ⟨_, rfl, H3⟩
      clear HSW H
      go_wp2
      go_end0
      exact ⟨_, rfl, by rw [hT.out]; simpa using H3⟩
    · obtain ⟨d, rfl⟩ : ∃ d, i = j + d := ⟨i - j, by omega⟩
      obtain ⟨X1, X2, hXs, hX1⟩ := split_at X j (by rw [hX.out]; omega)
      subst hXs
      have hX2 : X2.length = d := by have := hX.out; rw [List.length_append] at this; omega
      have em' : ((m : Int) - ((j : Int) + (d : Int))) = (pl : Int) := by omega
      have ed : ((j : Int) + (d : Int) - (j : Int)) = (d : Int) := by omega
      have hne : (((j : Int) + (d : Int)) == (j : Int)) = false := by simp; omega
      have hng : ((j : Int) < (j : Int) + (d : Int)) := by omega
      have el1 : P ++ (X1 ++ X2) ++ Y ++ Q = P ++ X1 ++ X2 ++ Y ++ Q := by simp
      rw [el1] at H
      have hLn' : N = (P ++ X1 ++ X2 ++ Y ++ Q).length := by rw [← el1]; exact hLn.out.symm
      have hsw := swap_any (w0 := w0) (w := wr) (ps := ps) (g := g) (c := c) (N := N) (p := P) (x := X1) (m := X2) (y := Y) (q := Q) (a := pl) (b := m) (n := j) cmp (by rw [hP.out]) (by rw [hX1, hX2]; omega) (by rw [hX1]) (by rw [hY.out, hX1]) hLn' hNb H
      have HSW := Lib.hid hsw
      have el2 : P ++ Y ++ X2 ++ X1 ++ Q = (P ++ Y) ++ X2 ++ X1 ++ Q := by simp
      have hT' : Hid (T = (P ++ Y) ++ X1 ++ X2 ++ Q) := Lib.hid (by rw [hT.out]; simp)
      have hX' : Hid (X2.length = d) := Lib.hid hX2
      have hY' : Hid (X1.length = j) := Lib.hid hX1
      have hP' : Hid ((P ++ Y).length = pl + j) := Lib.hid (by rw [List.length_append, hP.out, hY.out])
      have hLn2 : Hid (((P ++ Y) ++ X2 ++ X1 ++ Q).length = N) := Lib.hid (by rw [hLn']; simp only [List.length_append]; omega)
      clear hsw el1 el2 hLn' hX1 hX2 hT hX hY hLn hP
      go_wp2_with fail
      refine HSW.out.mono ?_
      rintro e w3 ⟨_, rfl, H3⟩
      clear HSW H
      go_wp2
      go_roundw
      case rel => exact ⟨d, j, pl + j, X2, X1, P ++ Y, Q, by go_num, rfl, by omega, by omega, by omega, by omega, hX', hY', hP', hLn2, hT', H3⟩
      case measure => simp [intOf]; omega
end
end SI
end Go.Proofs.Ytpbodonmiepilaa
/- The stable sort of slices of ints: the walk of insertionSort. (Written by tools/srt.py.) -/
namespace Go.Proofs.Ytpbodonmiepilaa
open Go.RowKit
namespace SI
/-- The function that compares. -/
abbrev cf (B : Nat) : Value := .func (.func 84) #[] #[.pointer (some ⟨B, 0, none⟩)]
abbrev ca (B : Nat) (x y : Int) : Array Value := #[.int .i64 x, .int .i64 y, .pointer (some ⟨B, 0, none⟩)]
abbrev cg : Nat := 84
/-- What is asked of it. -/
def Cmps (w0 : World) (ps : List Piece) (B : Nat) (ok : Int → Prop) (key : Int → Int) : Prop :=
  ∀ (wz : World) (row : Piece), Own w0 wz (row :: ps) → ∀ x y, ok x → ok y → Calls Try.prog cg (ca B x y) wz (Ret fun v w' => v = .int .i64 (cmpI (key x) (key y)) ∧ Own wz w' [])
section
variable {w0 w : World} {ps : List Piece} {ok : Int → Prop} {key : Int → Int} {B : Nat}
set_option maxRecDepth 100000 in
set_option maxHeartbeats 3200000 in
theorem insert_any {g c N : Nat} {p s q : List Int} {a b : Nat} (hcmp : Cmps w0 ps B ok key) (hok : ∀ x ∈ s, ok x) (ha : a = p.length) (hb : b = a + s.length) (hN : N = (p ++ s ++ q).length) (hNb : N ≤ 1000000)
    (H : Own w0 w (slc 3 1 (.slice (some ⟨g, 0, none⟩) N c) N (rows ie (p ++ s ++ q)) :: ps)) :
    Calls Try.prog 102 #[.slice (some ⟨g, 0, none⟩) N c, .int .i64 a, .int .i64 b, cf B] w (Ret fun _ w' => ∃ s', Srt key s' ∧ StEq key s s' ∧ Own w0 w' (slc 3 1 (.slice (some ⟨g, 0, none⟩) N c) N (rows ie (p ++ s' ++ q)) :: ps)) := by
  have hbN : b ≤ N := by rw [hN]; simp only [List.length_append]; omega
  have hNc : N ≤ c := by obtain ⟨_, _, e, h1, _⟩ := H.rd.shape; cases e; exact h1
  have hc2 : c ≤ 9223372036854775807 := by obtain ⟨_, _, e, _, h1⟩ := H.rd.shape; cases e; exact h1
  have HP := Lib.hid ha
  have HB := Lib.hid hb
  have HN := Lib.hid hN
  have HC := Lib.hid hcmp
  have HOK := Lib.hid hok
  have hab : a ≤ b := by omega
  clear ha hb hN hcmp hok
  go_enter Try.func102, Try.ntmps102
  by_cases hs0 : s.length = 0
  · have hs : s = [] := List.eq_nil_of_length_eq_zero hs0
    have hba : Hid (b = a) := Lib.hid (by rw [HB.out, hs0]; rfl)
    have hlt : ¬ ((a : Int) + 1 < (b : Int)) := by rw [hba.out]; omega
    subst hs
    clear hs0
    go_wp2_with fail
    go_loop [8] (fun s8 => s8 = .int .i64 ((a : Int) + 1)) (fun _ => 0)
    case atStart => go_num
    case round =>
      obtain rfl := hrel
      go_wp2
      go_end0
      exact ⟨_, rfl, [], List.Pairwise.nil, StEq.refl _, by simpa using H⟩
  · have hs1 : a + 1 ≤ b := by have := HB.out; omega
    go_wp2_with fail
    go_loopw [8] (fun s8 wx => ∃ (i : Nat) (S1 S2 U : List Int), a + 1 ≤ i ∧ i ≤ b ∧ s8 = .int .i64 i ∧ Hid (s = S1 ++ S2) ∧ Hid (a + S1.length = i) ∧ Hid (Srt key U) ∧ Hid (StEq key S1 U) ∧ Own w0 wx (slc 3 1 (.slice (some ⟨g, 0, none⟩) N c) N (rows ie (p ++ U ++ S2 ++ q)) :: ps)) (fun s8 _ => b - (intOf s8).toNat)
    case atStart =>
      obtain ⟨x, s2, hs⟩ : ∃ x s2, s = x :: s2 := by
        cases s with
        | nil => simp at hs0
        | cons x s2 => exact ⟨x, s2, rfl⟩
      exact ⟨a + 1, [x], s2, [x], by omega, hs1, by go_num, Lib.hid (by rw [hs]; rfl), Lib.hid rfl, Lib.hid (List.pairwise_singleton ..), Lib.hid (StEq.refl _), by rw [hs] at H; simpa using H⟩
    case round =>
      clear H hs0
      obtain ⟨i, S1, S2, U, hi1, hi2, rfl, hs, hl, hU, hSU, H⟩ := hrel
      by_cases hib : i < b
      · obtain ⟨x, S3, hS2⟩ : ∃ x S3, S2 = x :: S3 := by
          cases S2 with
          | nil => exfalso; have h1 := HB.out; have h2 := hl.out; rw [hs.out] at h1; simp at h1; omega
          | cons x S3 => exact ⟨x, S3, rfl⟩
        subst hS2
        have hokx : ok x := HOK.out x (by rw [hs.out]; simp)
        have hokU : Hid (∀ u ∈ U, ok u) := Lib.hid fun u hu => HOK.out u (by rw [hs.out]; exact List.mem_append.2 (.inl (hSU.out.symm.mem hu)))
        have hUl : Hid (a + U.length = i) := Lib.hid (by rw [← hSU.out.length]; exact hl.out)
        have hibI : (i : Int) < (b : Int) := by omega
        go_upto_block 1 with (fail)
        go_cut [] (fun wx => ∃ U', Hid (Srt key U') ∧ Hid (StEq key (S1 ++ [x]) U') ∧ Own w0 wx (slc 3 1 (.slice (some ⟨g, 0, none⟩) N c) N (rows ie (p ++ U' ++ S3 ++ q)) :: ps))
        case first =>
          go_wp2_with fail
          go_loopw [9] (fun s9 wx => ∃ (j : Nat) (U1 U2 : List Int), a ≤ j ∧ j ≤ i ∧ s9 = .int .i64 j ∧ Hid (U = U1 ++ U2) ∧ Hid (a + U1.length = j) ∧ Hid (∀ u ∈ U2, key x < key u) ∧ Own w0 wx (slc 3 1 (.slice (some ⟨g, 0, none⟩) N c) N (rows ie (p ++ U1 ++ x :: (U2 ++ S3 ++ q))) :: ps)) (fun s9 _ => (intOf s9).toNat)
          case atStart => exact ⟨i, U, [], by omega, by omega, rfl, Lib.hid (by simp), hUl, Lib.hid (by simp), by simpa using H⟩
          case round =>
            clear H
            obtain ⟨j, U1, U2, hj1, hj2, rfl, hU12, hU1, hgt, H⟩ := hrel
            have hfin : ∀ wz, (∀ u ∈ U1, key u ≤ key x) → Own w0 wz (slc 3 1 (.slice (some ⟨g, 0, none⟩) N c) N (rows ie (p ++ U1 ++ x :: (U2 ++ S3 ++ q))) :: ps) → ∃ U', Hid (Srt key U') ∧ Hid (StEq key (S1 ++ [x]) U') ∧ Own w0 wz (slc 3 1 (.slice (some ⟨g, 0, none⟩) N c) N (rows ie (p ++ U' ++ S3 ++ q)) :: ps) := by
              intro wz hle h
              have hs' : Srt key (U1 ++ U2) := by rw [← hU12.out]; exact hU.out
              have hm := Mrg.one_right (y := x) hs' hle hgt.out
              refine ⟨U1 ++ x :: U2, Lib.hid hm.1, Lib.hid (StEq.trans ((hSU.out.app (StEq.refl [x]))) (by rw [hU12.out]; exact hm.2)), ?_⟩
              simpa using h
            have HFIN := Lib.hid hfin
            clear hfin
            by_cases hja : a < j
            · obtain ⟨U3, u, hU3⟩ := last_split U1 (by have := hU1.out; omega)
              subst hU3
              have hjl : j = (p ++ U3).length + 1 := by
                have h1 := hU1.out
                have h2 := HP.out
                rw [List.length_append, List.length_singleton] at h1
                rw [List.length_append]
                omega
              have el1 : p ++ (U3 ++ [u]) ++ x :: (U2 ++ S3 ++ q) = (p ++ U3) ++ u :: ([] ++ x :: (U2 ++ S3 ++ q)) := by simp
              rw [el1] at H HFIN
              have hg1 : ((p ++ U3) ++ u :: ([] ++ x :: (U2 ++ S3 ++ q)))[j - 1]? = some u := get_mid _ _ _ (by omega)
              have hg2 : ((p ++ U3) ++ u :: ([] ++ x :: (U2 ++ S3 ++ q)))[j]? = some x := by
                have : (p ++ U3) ++ u :: ([] ++ x :: (U2 ++ S3 ++ q)) = ((p ++ U3) ++ [u]) ++ x :: (U2 ++ S3 ++ q) := by simp
                rw [this]
                exact get_mid _ _ _ (by simp only [List.length_append, List.length_cons, List.length_nil] at hjl ⊢; omega)
              have hLn : ((p ++ U3) ++ u :: ([] ++ x :: (U2 ++ S3 ++ q))).length = N := by
                have h1 := HN.out
                have h2 := hUl.out
                have h3 := hU12.out
                have h4 := hl.out
                rw [hs.out] at h1
                rw [h3] at h2
                simp only [List.length_append, List.length_cons, List.length_nil] at h1 h2 ⊢
                omega
              obtain ⟨j', rfl⟩ : ∃ j', j = j' + 1 := ⟨j - 1, by omega⟩
              have hsw := set_swap (p ++ U3) [] (U2 ++ S3 ++ q) u x (i := j') (j := j' + 1) (by omega) (by simp only [List.length_nil]; omega)
              rw [Nat.add_sub_cancel] at hg1
              obtain ⟨L, hL⟩ : ∃ L, Hid ((p ++ U3) ++ u :: ([] ++ x :: (U2 ++ S3 ++ q)) = L) := ⟨_, Lib.hid rfl⟩
              rw [hL.out] at H hg1 hg2 hsw hLn HFIN
              have HG1 := Lib.hid hg1
              have HG2 := Lib.hid hg2
              have e1 : (rows ie L).take ((j' + 1) * 1) ++ ie u ++ (rows ie L).drop ((j' + 1) * 1 + 1) = rows ie (L.set (j' + 1) u) := set_rows (by rw [hLn]; omega) u
              have e2 : (rows ie (L.set (j' + 1) u)).take (j' * 1) ++ ie x ++ (rows ie (L.set (j' + 1) u)).drop (j' * 1 + 1) = rows ie (p ++ U3 ++ x :: ((u :: U2) ++ S3 ++ q)) := by
                rw [set_rows (by rw [List.length_set, hLn]; omega) x, List.set_comm _ _ (by omega), hsw]
                simp
              have E1 := Lib.hid e1
              have E2 := Lib.hid e2
              have hU3l : Hid (a + U3.length = j') := Lib.hid (by have := HP.out; simp only [List.length_append] at hjl; omega)
              have hoku : ok u := hokU.out u (by rw [hU12.out]; simp)
              have hcall := fun (wz : World) (h : Own w0 wz (slc 3 1 (.slice (some ⟨g, 0, none⟩) N c) N (rows ie L) :: ps)) => HC.out wz _ h x u hokx hoku
              have hcl := cmpI_lt (key x) (key u)
              obtain ⟨cv, hcv⟩ : ∃ cv, Hid (cmpI (key x) (key u) = cv) := ⟨_, rfl⟩
              simp only [hcv.out] at hcall hcl
              have HCALL := Lib.hid hcall
              have hj1' : a ≤ j' := by omega
              have hjaI : (a : Int) < (j' : Int) + 1 := by omega
              have hjN : (j' : Int) + 1 < (N : Int) := by omega
              have hjT : ((j' : Int) + 1).toNat = j' + 1 := by omega
              have hjw : IntKind.i64.wrap (j' : Int) = (j' : Int) := IntWalk.i64_in _ ⟨by omega, by omega⟩
              have hjN0 : (j' : Int) < (N : Int) := by omega
              have hj0 : (0 : Int) ≤ (j' : Int) := by omega
              have hjs : ((j' : Int) + 1 - 1) = (j' : Int) := by omega
              clear hg1 hg2 hsw hLn e1 e2 el1 hjl hL hcall hja hU1 hj1
              go_upto_region 4 with (fail)
              refine wp_region_calm (fun w1 => Own w0 w1 (slc 3 1 (.slice (some ⟨g, 0, none⟩) N c) N (rows ie L) :: ps)) 16 (by kernel_rfl) (by kernel_rfl) H.drew ?_
              simp only [List.take_succ_cons, List.take_zero, List.drop_succ_cons, List.drop_zero]
              repeat
                first
                | (refine calm_value (v := ?_) (by decide) rfl (fun σ w1 hS => ?_) ?_
                   rotate_left
                   · obtain ⟨c1, c1'⟩ := el hS.rd HG1.out; obtain ⟨c2, c2'⟩ := el hS.rd HG2.out
                     first | (go_simp; rfl) | rfl
                   simp only [Act.put, List.setIfInBounds_toArray, List.set_cons_zero, List.set_cons_succ])
                | (refine calm_skip (by decide) rfl ?_
                   simp only [Act.put, List.setIfInBounds_toArray, List.set_cons_zero, List.set_cons_succ])
              refine calm_call (v := .int .i64 cv) (by decide) rfl (fun w1 => (by go_simp; first | exact ⟨rfl, rfl⟩ | rfl)) (fun σ w1 hS => ?_) ?_
              · refine (HCALL.out w1 hS).mono ?_
                rintro e w2 ⟨_, rfl, rfl, h2⟩
                exact ⟨rfl, hS.join h2⟩
              simp only [Act.put, List.setIfInBounds_toArray, List.set_cons_zero, List.set_cons_succ]
              repeat
                first
                | (refine calm_value (v := ?_) (by decide) rfl (fun σ w1 hS => ?_) ?_
                   rotate_left
                   · skip
                     first | (go_simp; rfl) | rfl
                   simp only [Act.put, List.setIfInBounds_toArray, List.set_cons_zero, List.set_cons_succ])
                | (refine calm_skip (by decide) rfl ?_
                   simp only [Act.put, List.setIfInBounds_toArray, List.set_cons_zero, List.set_cons_succ])
              refine calm_nil ?_
              intro wd HD
              clear H
              by_cases hxu : key x < key u
              · have hxu2 : decide (key x < key u) = true := by simp [hxu]
                have hgt2 : Hid (∀ v ∈ u :: U2, key x < key v) := Lib.hid fun v hv => by
                  rcases List.mem_cons.1 hv with rfl | hv
                  · exact hxu
                  · exact hgt.out v hv
                have hU' : Hid (U = U3 ++ (u :: U2)) := Lib.hid (by rw [hU12.out]; simp)
                rw [hxu2]
                clear hxu hxu2 HFIN hcl
                go_upto_region 6 with (fail)
                refine wp_region_pres (fun _ w1 => Own w0 w1 (slc 3 1 (.slice (some ⟨g, 0, none⟩) N c) N (rows ie L) :: ps)) 14 [] [2, 3, 4] (by kernel_rfl) (by kernel_rfl) (by kernel_rfl) (by kernel_rfl) (fun _ _ d _ _ h => by cases d <;> exact h) ⟨_, _, rfl, fun w => (by first | rfl | (go_simp; rfl)), _, _, rfl, fun w => (by first | rfl | (go_simp; rfl)), _, _, rfl, fun w => (by first | rfl | (go_simp; rfl)), rfl⟩ HD.drew ?_
                simp only [List.take_succ_cons, List.take_zero, List.drop_succ_cons, List.drop_zero]
                repeat
                  first
                  | (refine calm_value (v := ?_) (by decide) rfl (fun σ w1 hS => ?_) ?_
                     rotate_left
                     · obtain ⟨c1, c1'⟩ := el hS.rd HG1.out; obtain ⟨c2, c2'⟩ := el hS.rd HG2.out
                       first | (go_simp; rfl) | rfl
                     simp only [Act.put, List.setIfInBounds_toArray, List.set_cons_zero, List.set_cons_succ])
                  | (refine calm_skip (by decide) rfl ?_
                     simp only [Act.put, List.setIfInBounds_toArray, List.set_cons_zero, List.set_cons_succ])
                refine calm_nil ?_
                intro σ2 wd2 _ H2
                simp only [putNew, List.foldl_nil]
                clear HD
                go_wp2_with (first
                  | (refine wpList_store_elem rfl _ _ rfl (i := j' + 1) (by first | rfl | (rw [Nat.mul_one]; rfl)) H2 (ie u) rfl (by kernel_rfl) rfl (by omega) (e_one u) ?_; clear H2; intro w5 H; rw [E1.out] at H)
                  | (refine wpList_store_elem rfl _ _ rfl (i := j') (by first | rfl | (rw [Nat.mul_one]; rfl)) H (ie x) rfl (by kernel_rfl) rfl (by omega) (e_one x) ?_; clear H; intro w6 H; rw [E2.out] at H))
                go_roundw
                case rel => exact ⟨j', U3, u :: U2, hj1', by omega, by go_num, hU', hU3l, hgt2, H⟩
                case measure => simp [intOf]
              · have hxu2 : decide (key x < key u) = false := by simp [hxu]
                rw [hxu2]
                have hle : Hid (∀ v ∈ U3 ++ [u], key v ≤ key x) := Lib.hid fun v hv => by
                  have hs' : Srt key ((U3 ++ [u]) ++ U2) := by rw [← hU12.out]; exact hU.out
                  rcases List.mem_append.1 hv with hv | hv
                  · have := (hs'.left).across v hv u (by simp); omega
                  · simp at hv; subst hv; omega
                clear hxu hxu2 hcl
                go_wp2
                go_meet
                exact HFIN.out _ hle.out HD
            · have hja2 : j = a := by omega
              have hU10 : U1 = [] := by have := hU1.out; exact List.eq_nil_of_length_eq_zero (by omega)
              subst hja2
              clear hja
              go_upto_region 4 with (fail)
              refine wp_region_calm (fun w1 => Own w0 w1 (slc 3 1 (.slice (some ⟨g, 0, none⟩) N c) N (rows ie (p ++ U1 ++ x :: (U2 ++ S3 ++ q))) :: ps)) 16 (by kernel_rfl) (by kernel_rfl) H.drew ?_
              simp only [List.take_succ_cons, List.take_zero, List.drop_succ_cons, List.drop_zero]
              repeat
                first
                | (refine calm_value (v := ?_) (by decide) rfl (fun σ w1 hS => ?_) ?_
                   rotate_left
                   · skip
                     first | (go_simp; rfl) | rfl
                   simp only [Act.put, List.setIfInBounds_toArray, List.set_cons_zero, List.set_cons_succ])
                | (refine calm_skip (by decide) rfl ?_
                   simp only [Act.put, List.setIfInBounds_toArray, List.set_cons_zero, List.set_cons_succ])
              refine calm_nil ?_
              intro wd HD
              clear H
              go_wp2
              go_meet
              exact HFIN.out _ (by rw [hU10]; simp) HD
        case rest =>
          clear H
          obtain ⟨U', hs', he', H⟩ := hcut
          go_wp2
          go_roundw
          case rel => exact ⟨i + 1, S1 ++ [x], S3, U', by omega, by omega, by go_num, Lib.hid (by rw [hs.out]; simp), Lib.hid (by rw [List.length_append, ← Nat.add_assoc, hl.out]; rfl), hs', he', H⟩
          case measure => simp [intOf]; omega
      · have hib2 : i = b := by omega
        subst hib2
        have hS20 : S2 = [] := by
          have h1 := HB.out; have h2 := hl.out
          rw [hs.out, List.length_append] at h1
          exact List.eq_nil_of_length_eq_zero (by omega)
        have hs1' : s = S1 := by rw [hs.out, hS20, List.append_nil]
        rw [hS20, List.append_nil] at H
        have HE := Lib.hid hs1'
        clear hS20 hs1'
        go_wp2
        go_end0
        exact ⟨_, rfl, U, hU.out, by rw [HE.out]; exact hSU.out, H⟩
end
end SI
end Go.Proofs.Ytpbodonmiepilaa
/- The stable sort of slices of ints: the walk of symMerge, where one part is of one. (Written by tools/srt.py.) -/
namespace Go.Proofs.Ytpbodonmiepilaa
open Go.RowKit
namespace SI
section
variable {w0 w : World} {ps : List Piece} {ok : Int → Prop} {key : Int → Int} {B : Nat}
set_option maxRecDepth 100000 in
set_option maxHeartbeats 6400000 in
theorem symL_any {g c N : Nat} {p y q : List Int} {u : Int} {a m b : Nat} (hcmp : Cmps w0 ps B ok key) (hoku : ok u) (hoky : ∀ v ∈ y, ok v) (hy : Srt key y) (ha : a = p.length) (hm : m = a + 1) (hb : b = m + y.length) (hN : N = (p ++ [u] ++ y ++ q).length) (hNb : N ≤ 1000000)
    (H : Own w0 w (slc 3 1 (.slice (some ⟨g, 0, none⟩) N c) N (rows ie (p ++ [u] ++ y ++ q)) :: ps)) :
    Calls Try.prog 103 #[.slice (some ⟨g, 0, none⟩) N c, .int .i64 a, .int .i64 m, .int .i64 b, cf B] w (Ret fun _ w' => ∃ z, Mrg key [u] y z ∧ Own w0 w' (slc 3 1 (.slice (some ⟨g, 0, none⟩) N c) N (rows ie (p ++ z ++ q)) :: ps)) := by
  have hbN : b ≤ N := by rw [hN]; simp only [List.length_append, List.length_singleton]; omega
  have hNc : N ≤ c := by obtain ⟨_, _, e, h1, _⟩ := H.rd.shape; cases e; exact h1
  have hc2 : c ≤ 9223372036854775807 := by obtain ⟨_, _, e, _, h1⟩ := H.rd.shape; cases e; exact h1
  have hgu : (p ++ [u] ++ y ++ q)[a]? = some u := by
    have : p ++ [u] ++ y ++ q = p ++ u :: (y ++ q) := by simp
    rw [this]; exact get_mid _ _ _ ha
  have hgy : ∀ t v, y[t]? = some v → (p ++ [u] ++ y ++ q)[m + t]? = some v := by
    intro t v hv
    have : p ++ [u] ++ y ++ q = (p ++ [u]) ++ (y ++ q) := by simp
    rw [this, List.getElem?_append_right (by simp only [List.length_append, List.length_singleton]; omega), List.getElem?_append_left (by have := (List.getElem?_eq_some_iff.1 hv).1; simp only [List.length_append, List.length_singleton]; omega)]
    simp only [List.length_append, List.length_singleton]
    rw [show m + t - (p.length + 1) = t by omega]
    exact hv
  have HGU := Lib.hid hgu
  have HGY := Lib.hid hgy
  have HP := Lib.hid ha
  have HB := Lib.hid hb
  have HN := Lib.hid hN
  have HC := Lib.hid hcmp
  have HOK := Lib.hid hoky
  have HS := Lib.hid hy
  obtain ⟨L, hL⟩ : ∃ L, Hid (p ++ [u] ++ y ++ q = L) := ⟨_, Lib.hid rfl⟩
  rw [hL.out] at H HGU HGY
  have hmb : m ≤ b := by omega
  have hma : ((m : Int) - (a : Int)) = 1 := by omega
  have ham : a < m := by omega
  have haN : (a : Int) < (N : Int) := by omega
  have HM := Lib.hid hm
  clear ha hb hN hcmp hoky hy hgu hgy hm
  go_enter Try.func103, Try.ntmps103
  go_wp2_with fail
  go_loopw [10, 11] (fun s10 s11 wx => ∃ (i j : Nat), s10 = .int .i64 i ∧ s11 = .int .i64 j ∧ m ≤ i ∧ i ≤ j ∧ j ≤ b ∧ Hid (∀ (t : Nat) (v : Int), m + t < i → y[t]? = some v → key v < key u) ∧ Hid (∀ (t : Nat) (v : Int), j ≤ m + t → y[t]? = some v → key u ≤ key v) ∧ Own w0 wx (slc 3 1 (.slice (some ⟨g, 0, none⟩) N c) N (rows ie L) :: ps)) (fun s10 s11 _ => (intOf s11).toNat - (intOf s10).toNat)
  case atStart => exact ⟨m, b, rfl, rfl, by omega, by omega, by omega, Lib.hid (fun t v h => by omega), Lib.hid (fun t v h hv => by have := (List.getElem?_eq_some_iff.1 hv).1; have := HB.out; omega), H⟩
  case round =>
    clear H
    obtain ⟨i, j, rfl, rfl, hmi, hij, hjb, hlo, hhi, H⟩ := hrel
    by_cases hlt : i < j
    · obtain ⟨h, hh⟩ : ∃ h, Hid ((i + j) / 2 = h) := ⟨_, rfl⟩
      have hih : i ≤ h := by rw [← hh.out]; omega
      have hhj : h < j := by rw [← hh.out]; omega
      have hsI : (((i : Int) + (j : Int)) / 2) = (h : Int) := by have := hh.out; omega
      have hsU : IntKind.u64.wrap ((i : Int) + (j : Int)) = (i : Int) + (j : Int) := by simp [IntKind.wrap, IntKind.bits, IntKind.signed]; omega
      obtain ⟨t, ht⟩ : ∃ t, h = m + t := ⟨h - m, by omega⟩
      obtain ⟨v, hv⟩ := get_of_lt (l := y) (k := t) (by have := HB.out; omega)
      have hg := HGY.out t v hv
      rw [← ht] at hg
      have HG := Lib.hid hg
      have hokv : ok v := HOK.out v (List.mem_of_getElem? hv)
      have hcall := fun (wz : World) (h : Own w0 wz (slc 3 1 (.slice (some ⟨g, 0, none⟩) N c) N (rows ie L) :: ps)) => HC.out wz _ h v u hokv hoku
      have hcl := cmpI_lt (key v) (key u)
      obtain ⟨cv, hcv⟩ : ∃ cv, Hid (cmpI (key v) (key u) = cv) := ⟨_, rfl⟩
      simp only [hcv.out] at hcall hcl
      have HCALL := Lib.hid hcall
      have hhN : (h : Int) < (N : Int) := by omega
      have hlo2 : key v < key u → Hid (∀ (t' : Nat) (v' : Int), m + t' < h + 1 → y[t']? = some v' → key v' < key u) := fun hk => Lib.hid fun t' v' ht' hv' => by
        by_cases e : t' = t
        · subst e; rw [hv] at hv'; cases hv'; exact hk
        · have h1 := List.pairwise_iff_getElem.1 HS.out t' t (List.getElem?_eq_some_iff.1 hv').1 (List.getElem?_eq_some_iff.1 hv).1 (by omega)
          rw [(List.getElem?_eq_some_iff.1 hv').2, (List.getElem?_eq_some_iff.1 hv).2] at h1
          omega
      have hhi2 : ¬ key v < key u → Hid (∀ (t' : Nat) (v' : Int), h ≤ m + t' → y[t']? = some v' → key u ≤ key v') := fun hk => Lib.hid fun t' v' ht' hv' => by
        by_cases e : t' = t
        · subst e; rw [hv] at hv'; cases hv'; omega
        · have h1 := List.pairwise_iff_getElem.1 HS.out t t' (List.getElem?_eq_some_iff.1 hv).1 (List.getElem?_eq_some_iff.1 hv').1 (by omega)
          rw [(List.getElem?_eq_some_iff.1 hv').2, (List.getElem?_eq_some_iff.1 hv).2] at h1
          omega
      have HLO2 := Lib.hid hlo2
      have HHI2 := Lib.hid hhi2
      clear hlo2 hhi2 hg hv ht hcall
      go_upto_region 5 with (fail)
      refine wp_region_calm (fun w1 => Own w0 w1 (slc 3 1 (.slice (some ⟨g, 0, none⟩) N c) N (rows ie L) :: ps)) 10 (by kernel_rfl) (by kernel_rfl) H.drew ?_
      simp only [List.take_succ_cons, List.take_zero, List.drop_succ_cons, List.drop_zero]
      repeat
        first
        | (refine calm_value (v := ?_) (by decide) rfl (fun σ w1 hS => ?_) ?_
           rotate_left
           · obtain ⟨c1, c1'⟩ := el hS.rd HG.out; obtain ⟨c2, c2'⟩ := el hS.rd HGU.out
             first | (go_simp; rfl) | rfl
           simp only [Act.put, List.setIfInBounds_toArray, List.set_cons_zero, List.set_cons_succ])
        | (refine calm_skip (by decide) rfl ?_
           simp only [Act.put, List.setIfInBounds_toArray, List.set_cons_zero, List.set_cons_succ])
      refine calm_call (v := .int .i64 cv) (by decide) rfl (fun w1 => (by go_simp; first | exact ⟨rfl, rfl⟩ | rfl)) (fun σ w1 hS => ?_) ?_
      · refine (HCALL.out w1 hS).mono ?_
        rintro e w2 ⟨_, rfl, rfl, h2⟩
        exact ⟨rfl, hS.join h2⟩
      simp only [Act.put, List.setIfInBounds_toArray, List.set_cons_zero, List.set_cons_succ]
      refine calm_nil ?_
      intro wd HD
      clear H
      by_cases hk : key v < key u
      · have hk2 : decide (cv < 0) = true := by rw [hcl]; simp [hk]
        have hn := HLO2.out hk
        clear hk hcl HHI2
        go_wp2
        go_roundw
        case rel => exact ⟨h + 1, j, by go_num, rfl, by omega, by omega, by omega, hn, hhi, HD⟩
        case measure => simp [intOf]; omega
      · have hk2 : decide (cv < 0) = false := by rw [hcl]; simp [hk]
        have hn := HHI2.out hk
        clear hk hcl HLO2
        go_wp2
        go_roundw
        case rel => exact ⟨i, h, rfl, by go_num, by omega, by omega, by omega, hlo, hn, HD⟩
        case measure => simp [intOf]; omega
    · have hij2 : i = j := by omega
      subst hij2
      obtain ⟨y1, y2, hys, hy1⟩ := split_at y (i - m) (by have := HB.out; omega)
      have hlt1 : ∀ v ∈ y1, key v < key u := fun v hv => by
        obtain ⟨t, ht, rfl⟩ := List.getElem_of_mem hv
        refine hlo.out t _ (by omega) ?_
        rw [hys, List.getElem?_append_left ht, List.getElem?_eq_getElem ht]
      have hge2 : ∀ v ∈ y2, key u ≤ key v := fun v hv => by
        obtain ⟨t, ht, rfl⟩ := List.getElem_of_mem hv
        refine hhi.out (y1.length + t) _ (by omega) ?_
        rw [hys, List.getElem?_append_right (by omega), Nat.add_sub_cancel_left, List.getElem?_eq_getElem ht]
      have hmrg : Mrg key [u] y (y1 ++ u :: y2) := by
        have := Mrg.one_left (key := key) (x := u) (y1 := y1) (y2 := y2) (by rw [← hys]; exact HS.out) hlt1 hge2
        rwa [← hys] at this
      have HMRG := Lib.hid hmrg
      have HY1 := Lib.hid hy1
      have hLe : Hid (L = p ++ u :: (y1 ++ y2 ++ q)) := Lib.hid (by rw [← hL.out, hys]; simp)
      have hiw : IntKind.i64.wrap ((i : Int) - 1) = (i : Int) - 1 := IntWalk.i64_in _ ⟨by omega, by omega⟩
      have hHL : Hid (L.length = N) := Lib.hid (by rw [← hL.out, ← HN.out])
      clear hlo hhi hys hlt1 hge2 hmrg hy1 hlt
      rw [hLe.out] at H
      go_wp2_with fail
      go_loopw [13] (fun s13 wx => ∃ (k : Nat) (Y1 Y2 : List Int), s13 = .int .i64 k ∧ a ≤ k ∧ k + 1 ≤ i ∧ Hid (y1 = Y1 ++ Y2) ∧ Hid (a + Y1.length = k) ∧ Own w0 wx (slc 3 1 (.slice (some ⟨g, 0, none⟩) N c) N (rows ie (p ++ Y1 ++ u :: (Y2 ++ (y2 ++ q)))) :: ps)) (fun s13 _ => i - (intOf s13).toNat)
      case atStart => exact ⟨a, [], y1, rfl, by omega, by omega, Lib.hid rfl, Lib.hid rfl, by simpa using H⟩
      case round =>
        clear H
        obtain ⟨k, Y1, Y2, rfl, hk1, hk2, hy1, hYl, H⟩ := hrel
        by_cases hki : k + 1 < i
        · obtain ⟨v, Y3, hY2⟩ : ∃ v Y3, Y2 = v :: Y3 := by
            cases Y2 with
            | nil => exfalso; have h1 := HY1.out; have h2 := hYl.out; rw [hy1.out] at h1; simp at h1; have := HM.out; omega
            | cons v Y3 => exact ⟨v, Y3, rfl⟩
          subst hY2
          have el1 : p ++ Y1 ++ u :: (v :: Y3 ++ (y2 ++ q)) = (p ++ Y1) ++ u :: ([] ++ v :: (Y3 ++ (y2 ++ q))) := by simp
          rw [el1] at H
          have hkl : k = (p ++ Y1).length := by rw [List.length_append, ← HP.out]; exact hYl.out.symm
          have hLn : ((p ++ Y1) ++ u :: ([] ++ v :: (Y3 ++ (y2 ++ q)))).length = N := by
            rw [← hHL.out, hLe.out, hy1.out]
            simp only [List.length_append, List.length_cons, List.length_nil]
            omega
          have hg1 : ((p ++ Y1) ++ u :: ([] ++ v :: (Y3 ++ (y2 ++ q))))[k]? = some u := get_mid _ _ _ hkl
          have hg2 : ((p ++ Y1) ++ u :: ([] ++ v :: (Y3 ++ (y2 ++ q))))[k + 1]? = some v := by
            have : (p ++ Y1) ++ u :: ([] ++ v :: (Y3 ++ (y2 ++ q))) = ((p ++ Y1) ++ [u]) ++ v :: (Y3 ++ (y2 ++ q)) := by simp
            rw [this]
            exact get_mid _ _ _ (by rw [List.length_append, List.length_singleton, ← hkl])
          have hsw := set_swap (p ++ Y1) [] (Y3 ++ (y2 ++ q)) u v (i := k) (j := k + 1) hkl (by simp only [List.length_nil]; omega)
          obtain ⟨M, hM⟩ : ∃ M, Hid ((p ++ Y1) ++ u :: ([] ++ v :: (Y3 ++ (y2 ++ q))) = M) := ⟨_, Lib.hid rfl⟩
          rw [hM.out] at H hg1 hg2 hsw hLn
          have HG1 := Lib.hid hg1
          have HG2 := Lib.hid hg2
          have e1 : (rows ie M).take (k * 1) ++ ie v ++ (rows ie M).drop (k * 1 + 1) = rows ie (M.set k v) := set_rows (by rw [hLn]; omega) v
          have e2 : (rows ie (M.set k v)).take ((k + 1) * 1) ++ ie u ++ (rows ie (M.set k v)).drop ((k + 1) * 1 + 1) = rows ie (p ++ (Y1 ++ [v]) ++ u :: (Y3 ++ (y2 ++ q))) := by
            rw [set_rows (by rw [List.length_set, hLn]; omega) u, hsw]
            simp
          have E1 := Lib.hid e1
          have E2 := Lib.hid e2
          have hkiI : (k : Int) < (i : Int) - 1 := by omega
          have hkN : (k : Int) < (N : Int) := by omega
          have hkN1 : (k : Int) + 1 < (N : Int) := by omega
          have hkT : ((k : Int) + 1).toNat = k + 1 := by omega
          have hkw : IntKind.i64.wrap ((k : Int) + 1) = (k : Int) + 1 := IntWalk.i64_in _ ⟨by omega, by omega⟩
          have hY' : Hid (y1 = (Y1 ++ [v]) ++ Y3) := Lib.hid (by rw [hy1.out]; simp)
          have hYl' : Hid (a + (Y1 ++ [v]).length = k + 1) := Lib.hid (by rw [List.length_append, List.length_singleton]; have := hYl.out; omega)
          clear hg1 hg2 hsw hLn e1 e2 el1 hkl hM
          go_upto_region 11 with (fail)
          refine wp_region_pres (fun _ w1 => Own w0 w1 (slc 3 1 (.slice (some ⟨g, 0, none⟩) N c) N (rows ie M) :: ps)) 14 [] [2, 3, 4] (by kernel_rfl) (by kernel_rfl) (by kernel_rfl) (by kernel_rfl) (fun _ _ d _ _ h => by cases d <;> exact h) ⟨_, _, rfl, fun w => (by first | rfl | (go_simp; rfl)), _, _, rfl, fun w => (by first | rfl | (go_simp; rfl)), _, _, rfl, fun w => (by first | rfl | (go_simp; rfl)), rfl⟩ H.drew ?_
          simp only [List.take_succ_cons, List.take_zero, List.drop_succ_cons, List.drop_zero]
          repeat
            first
            | (refine calm_value (v := ?_) (by decide) rfl (fun σ w1 hS => ?_) ?_
               rotate_left
               · obtain ⟨c1, c1'⟩ := el hS.rd HG1.out; obtain ⟨c2, c2'⟩ := el hS.rd HG2.out
                 first | (go_simp; rfl) | rfl
               simp only [Act.put, List.setIfInBounds_toArray, List.set_cons_zero, List.set_cons_succ])
            | (refine calm_skip (by decide) rfl ?_
               simp only [Act.put, List.setIfInBounds_toArray, List.set_cons_zero, List.set_cons_succ])
          refine calm_nil ?_
          intro σ2 wd2 _ H2
          simp only [putNew, List.foldl_nil]
          clear H
          go_wp2_with (first
            | (refine wpList_store_elem rfl _ _ rfl (i := k) (by first | rfl | (rw [Nat.mul_one]; rfl)) H2 (ie v) rfl (by kernel_rfl) rfl (by omega) (e_one v) ?_; clear H2; intro w5 H; rw [E1.out] at H)
            | (refine wpList_store_elem rfl _ _ rfl (i := k + 1) (by first | rfl | (rw [Nat.mul_one]; rfl)) H (ie u) rfl (by kernel_rfl) rfl (by omega) (e_one u) ?_; clear H; intro w6 H; rw [E2.out] at H))
          go_roundw
          case rel => exact ⟨k + 1, Y1 ++ [v], Y3, by go_num, by omega, by omega, hY', hYl', H⟩
          case measure => simp [intOf]; omega
        · have hY20 : Y2 = [] := by
            have h1 := HY1.out; have h2 := hYl.out
            rw [hy1.out, List.length_append] at h1
            have := HM.out
            exact List.eq_nil_of_length_eq_zero (by omega)
          have hnk : ¬ ((k : Int) < (i : Int) - 1) := by omega
          have e1 : Hid (y1 = Y1) := Lib.hid (by rw [hy1.out, hY20, List.append_nil])
          have el2 : p ++ Y1 ++ u :: (Y2 ++ (y2 ++ q)) = p ++ (y1 ++ u :: y2) ++ q := by rw [hY20, e1.out]; simp
          rw [el2] at H
          clear el2 hY20 hki
          go_wp2
          go_end0
          exact ⟨_, rfl, _, HMRG.out, by simpa using H⟩
end
end SI
end Go.Proofs.Ytpbodonmiepilaa
/- The stable sort of slices of ints: the walk of symMerge, where the second part is of one. (Written by tools/srt.py.) -/
namespace Go.Proofs.Ytpbodonmiepilaa
open Go.RowKit
namespace SI
section
variable {w0 w : World} {ps : List Piece} {ok : Int → Prop} {key : Int → Int} {B : Nat}
set_option maxRecDepth 100000 in
set_option maxHeartbeats 6400000 in
theorem symR_any {g c N : Nat} {p x q : List Int} {u : Int} {a m b : Nat} (hcmp : Cmps w0 ps B ok key) (hoku : ok u) (hokx : ∀ v ∈ x, ok v) (hx : Srt key x) (hx2 : 2 ≤ x.length) (ha : a = p.length) (hm : m = a + x.length) (hb : b = m + 1) (hN : N = (p ++ x ++ [u] ++ q).length) (hNb : N ≤ 1000000)
    (H : Own w0 w (slc 3 1 (.slice (some ⟨g, 0, none⟩) N c) N (rows ie (p ++ x ++ [u] ++ q)) :: ps)) :
    Calls Try.prog 103 #[.slice (some ⟨g, 0, none⟩) N c, .int .i64 a, .int .i64 m, .int .i64 b, cf B] w (Ret fun _ w' => ∃ z, Mrg key x [u] z ∧ Own w0 w' (slc 3 1 (.slice (some ⟨g, 0, none⟩) N c) N (rows ie (p ++ z ++ q)) :: ps)) := by
  have hbN : b ≤ N := by rw [hN]; simp only [List.length_append, List.length_singleton]; omega
  have hNc : N ≤ c := by obtain ⟨_, _, e, h1, _⟩ := H.rd.shape; cases e; exact h1
  have hc2 : c ≤ 9223372036854775807 := by obtain ⟨_, _, e, _, h1⟩ := H.rd.shape; cases e; exact h1
  have hgu : (p ++ x ++ [u] ++ q)[m]? = some u := by
    have : p ++ x ++ [u] ++ q = (p ++ x) ++ u :: q := by simp
    rw [this]; exact get_mid _ _ _ (by rw [List.length_append]; omega)
  have hgx : ∀ (t : Nat) v, x[t]? = some v → (p ++ x ++ [u] ++ q)[a + t]? = some v := by
    intro t v hv
    have : p ++ x ++ [u] ++ q = p ++ (x ++ (u :: q)) := by simp
    rw [this, List.getElem?_append_right (by omega), List.getElem?_append_left (by have := (List.getElem?_eq_some_iff.1 hv).1; omega)]
    rw [show a + t - p.length = t by omega]
    exact hv
  have HGU := Lib.hid hgu
  have HGX := Lib.hid hgx
  have HP := Lib.hid ha
  have HM := Lib.hid hm
  have HN := Lib.hid hN
  have HC := Lib.hid hcmp
  have HOK := Lib.hid hokx
  have HS := Lib.hid hx
  obtain ⟨L, hL⟩ : ∃ L, Hid (p ++ x ++ [u] ++ q = L) := ⟨_, Lib.hid rfl⟩
  rw [hL.out] at H HGU HGX
  have hmN : m < N := by omega
  have ham : a + 2 ≤ m := by omega
  have hma : (((m : Int) - (a : Int)) == 1) = false := by simp; omega
  have hbm : ((b : Int) - (m : Int)) = 1 := by omega
  have hbm2 : m ≤ b := by omega
  clear ha hb hN hcmp hokx hx hgu hgx hm hx2
  go_enter Try.func103, Try.ntmps103
  go_wp2_with fail
  go_loopw [14, 15] (fun s10 s11 wx => ∃ (i j : Nat), s10 = .int .i64 i ∧ s11 = .int .i64 j ∧ a ≤ i ∧ i ≤ j ∧ j ≤ m ∧ Hid (∀ (t : Nat) (v : Int), a + t < i → x[t]? = some v → key v ≤ key u) ∧ Hid (∀ (t : Nat) (v : Int), j ≤ a + t → x[t]? = some v → key u < key v) ∧ Own w0 wx (slc 3 1 (.slice (some ⟨g, 0, none⟩) N c) N (rows ie L) :: ps)) (fun s10 s11 _ => (intOf s11).toNat - (intOf s10).toNat)
  case atStart => exact ⟨a, m, rfl, rfl, by omega, by omega, by omega, Lib.hid (fun t v h => by omega), Lib.hid (fun t v h hv => by have := (List.getElem?_eq_some_iff.1 hv).1; have := HM.out; omega), H⟩
  case round =>
    clear H
    obtain ⟨i, j, rfl, rfl, hmi, hij, hjb, hlo, hhi, H⟩ := hrel
    by_cases hlt : i < j
    · obtain ⟨h, hh⟩ : ∃ h, Hid ((i + j) / 2 = h) := ⟨_, rfl⟩
      have hih : i ≤ h := by rw [← hh.out]; omega
      have hhj : h < j := by rw [← hh.out]; omega
      have hsI : (((i : Int) + (j : Int)) / 2) = (h : Int) := by have := hh.out; omega
      have hsU : IntKind.u64.wrap ((i : Int) + (j : Int)) = (i : Int) + (j : Int) := by simp [IntKind.wrap, IntKind.bits, IntKind.signed]; omega
      obtain ⟨t, ht⟩ : ∃ t, h = a + t := ⟨h - a, by omega⟩
      obtain ⟨v, hv⟩ := get_of_lt (l := x) (k := t) (by have := HM.out; omega)
      have hg := HGX.out t v hv
      rw [← ht] at hg
      have HG := Lib.hid hg
      have hokv : ok v := HOK.out v (List.mem_of_getElem? hv)
      have hcall := fun (wz : World) (h : Own w0 wz (slc 3 1 (.slice (some ⟨g, 0, none⟩) N c) N (rows ie L) :: ps)) => HC.out wz _ h u v hoku hokv
      have hcl := cmpI_lt (key u) (key v)
      obtain ⟨cv, hcv⟩ : ∃ cv, Hid (cmpI (key u) (key v) = cv) := ⟨_, rfl⟩
      simp only [hcv.out] at hcall hcl
      have HCALL := Lib.hid hcall
      have hhN : (h : Int) < (N : Int) := by omega
      have hlo2 : ¬ key u < key v → Hid (∀ (t' : Nat) (v' : Int), a + t' < h + 1 → x[t']? = some v' → key v' ≤ key u) := fun hk => Lib.hid fun t' v' ht' hv' => by
        by_cases e : t' = t
        · subst e; rw [hv] at hv'; cases hv'; omega
        · have h1 := List.pairwise_iff_getElem.1 HS.out t' t (List.getElem?_eq_some_iff.1 hv').1 (List.getElem?_eq_some_iff.1 hv).1 (by omega)
          rw [(List.getElem?_eq_some_iff.1 hv').2, (List.getElem?_eq_some_iff.1 hv).2] at h1
          omega
      have hhi2 : key u < key v → Hid (∀ (t' : Nat) (v' : Int), h ≤ a + t' → x[t']? = some v' → key u < key v') := fun hk => Lib.hid fun t' v' ht' hv' => by
        by_cases e : t' = t
        · subst e; rw [hv] at hv'; cases hv'; exact hk
        · have h1 := List.pairwise_iff_getElem.1 HS.out t t' (List.getElem?_eq_some_iff.1 hv).1 (List.getElem?_eq_some_iff.1 hv').1 (by omega)
          rw [(List.getElem?_eq_some_iff.1 hv').2, (List.getElem?_eq_some_iff.1 hv).2] at h1
          omega
      have HLO2 := Lib.hid hlo2
      have HHI2 := Lib.hid hhi2
      clear hlo2 hhi2 hg hv ht hcall
      go_upto_region 17 with (fail)
      refine wp_region_calm (fun w1 => Own w0 w1 (slc 3 1 (.slice (some ⟨g, 0, none⟩) N c) N (rows ie L) :: ps)) 10 (by kernel_rfl) (by kernel_rfl) H.drew ?_
      simp only [List.take_succ_cons, List.take_zero, List.drop_succ_cons, List.drop_zero]
      have hmNI : (m : Int) < (N : Int) := by omega
      repeat
        first
        | (refine calm_value (v := ?_) (by decide) rfl (fun σ w1 hS => ?_) ?_
           rotate_left
           · obtain ⟨c1, c1'⟩ := el hS.rd HG.out; obtain ⟨c2, c2'⟩ := el hS.rd HGU.out
             first | (go_simp; rfl) | rfl
           simp only [Act.put, List.setIfInBounds_toArray, List.set_cons_zero, List.set_cons_succ])
        | (refine calm_skip (by decide) rfl ?_
           simp only [Act.put, List.setIfInBounds_toArray, List.set_cons_zero, List.set_cons_succ])
      refine calm_call (v := .int .i64 cv) (by decide) rfl (fun w1 => (by go_simp; first | exact ⟨rfl, rfl⟩ | rfl)) (fun σ w1 hS => ?_) ?_
      · refine (HCALL.out w1 hS).mono ?_
        rintro e w2 ⟨_, rfl, rfl, h2⟩
        exact ⟨rfl, hS.join h2⟩
      simp only [Act.put, List.setIfInBounds_toArray, List.set_cons_zero, List.set_cons_succ]
      refine calm_nil ?_
      intro wd HD
      clear H
      by_cases hk : key u < key v
      · have hk2 : decide (cv < 0) = true := by rw [hcl]; simp [hk]
        have hn := HHI2.out hk
        clear hk hcl HLO2
        go_wp2
        go_roundw
        case rel => exact ⟨i, h, rfl, by go_num, by omega, by omega, by omega, hlo, hn, HD⟩
        case measure => simp [intOf]; omega
      · have hk2 : decide (cv < 0) = false := by rw [hcl]; simp [hk]
        have hn := HLO2.out hk
        clear hk hcl HHI2
        go_wp2
        go_roundw
        case rel => exact ⟨h + 1, j, by go_num, rfl, by omega, by omega, by omega, hn, hhi, HD⟩
        case measure => simp [intOf]; omega
    · have hij2 : i = j := by omega
      subst hij2
      obtain ⟨x1, x2, hxs, hx1⟩ := split_at x (i - a) (by have := HM.out; omega)
      have hle1 : ∀ v ∈ x1, key v ≤ key u := fun v hv => by
        obtain ⟨t, ht, rfl⟩ := List.getElem_of_mem hv
        refine hlo.out t _ (by omega) ?_
        rw [hxs, List.getElem?_append_left ht, List.getElem?_eq_getElem ht]
      have hgt2 : ∀ v ∈ x2, key u < key v := fun v hv => by
        obtain ⟨t, ht, rfl⟩ := List.getElem_of_mem hv
        refine hhi.out (x1.length + t) _ (by omega) ?_
        rw [hxs, List.getElem?_append_right (by omega), Nat.add_sub_cancel_left, List.getElem?_eq_getElem ht]
      have hmrg : Mrg key x [u] (x1 ++ u :: x2) := by
        have := Mrg.one_right (key := key) (y := u) (x1 := x1) (x2 := x2) (by rw [← hxs]; exact HS.out) hle1 hgt2
        rwa [← hxs] at this
      have HMRG := Lib.hid hmrg
      have HX1 := Lib.hid hx1
      have hx12 : Hid (i + x2.length = m) := Lib.hid (by have h1 := HM.out; rw [hxs, List.length_append] at h1; omega)
      have hLe : Hid (L = p ++ x1 ++ x2 ++ u :: q) := Lib.hid (by rw [← hL.out, hxs]; simp)
      have hHL : Hid (L.length = N) := Lib.hid (by rw [← hL.out, ← HN.out])
      clear hlo hhi hxs hle1 hgt2 hmrg hx1 hlt
      rw [hLe.out] at H
      go_wp2_with fail
      go_loopw [17] (fun s13 wx => ∃ (k : Nat) (X1 X2 : List Int), s13 = .int .i64 k ∧ i ≤ k ∧ k ≤ m ∧ Hid (x2 = X1 ++ X2) ∧ Hid (i + X1.length = k) ∧ Own w0 wx (slc 3 1 (.slice (some ⟨g, 0, none⟩) N c) N (rows ie (p ++ x1 ++ X1 ++ u :: (X2 ++ q))) :: ps)) (fun s13 _ => (intOf s13).toNat)
      case atStart => exact ⟨m, x2, [], rfl, by omega, by omega, Lib.hid (by simp), hx12, by simpa using H⟩
      case round =>
        clear H
        obtain ⟨k, X1, X2, rfl, hk1, hk2, hx2, hXl, H⟩ := hrel
        by_cases hki : i < k
        · obtain ⟨X3, v, hX1⟩ := last_split X1 (by have := hXl.out; omega)
          subst hX1
          have el1 : p ++ x1 ++ (X3 ++ [v]) ++ u :: (X2 ++ q) = (p ++ x1 ++ X3) ++ v :: ([] ++ u :: (X2 ++ q)) := by simp
          rw [el1] at H
          obtain ⟨k', rfl⟩ : ∃ k', k = k' + 1 := ⟨k - 1, by omega⟩
          have hkl : k' = (p ++ x1 ++ X3).length := by
            have h1 := hXl.out; have h2 := HP.out; have h3 := HX1.out
            rw [List.length_append, List.length_singleton] at h1
            simp only [List.length_append]
            omega
          have hLn : ((p ++ x1 ++ X3) ++ v :: ([] ++ u :: (X2 ++ q))).length = N := by
            rw [← hHL.out, hLe.out, hx2.out]
            simp only [List.length_append, List.length_cons, List.length_nil]
            omega
          have hg1 : ((p ++ x1 ++ X3) ++ v :: ([] ++ u :: (X2 ++ q)))[k']? = some v := get_mid _ _ _ hkl
          have hg2 : ((p ++ x1 ++ X3) ++ v :: ([] ++ u :: (X2 ++ q)))[k' + 1]? = some u := by
            have : (p ++ x1 ++ X3) ++ v :: ([] ++ u :: (X2 ++ q)) = ((p ++ x1 ++ X3) ++ [v]) ++ u :: (X2 ++ q) := by simp
            rw [this]
            exact get_mid _ _ _ (by rw [List.length_append (bs := [v]), List.length_singleton, ← hkl])
          have hsw := set_swap (p ++ x1 ++ X3) [] (X2 ++ q) v u (i := k') (j := k' + 1) hkl (by simp only [List.length_nil]; omega)
          obtain ⟨M, hM⟩ : ∃ M, Hid ((p ++ x1 ++ X3) ++ v :: ([] ++ u :: (X2 ++ q)) = M) := ⟨_, Lib.hid rfl⟩
          rw [hM.out] at H hg1 hg2 hsw hLn
          have HG1 := Lib.hid hg1
          have HG2 := Lib.hid hg2
          have e1 : (rows ie M).take ((k' + 1) * 1) ++ ie v ++ (rows ie M).drop ((k' + 1) * 1 + 1) = rows ie (M.set (k' + 1) v) := set_rows (by rw [hLn]; omega) v
          have e2 : (rows ie (M.set (k' + 1) v)).take (k' * 1) ++ ie u ++ (rows ie (M.set (k' + 1) v)).drop (k' * 1 + 1) = rows ie (p ++ x1 ++ X3 ++ u :: ((v :: X2) ++ q)) := by
            rw [set_rows (by rw [List.length_set, hLn]; omega) u, List.set_comm _ _ (by omega), hsw]
            simp
          have E1 := Lib.hid e1
          have E2 := Lib.hid e2
          have hik : i ≤ k' := by omega
          have hikI : (i : Int) < (k' : Int) + 1 := by omega
          have hkN : (k' : Int) < (N : Int) := by omega
          have hkN1 : (k' : Int) + 1 < (N : Int) := by omega
          have hkT : ((k' : Int) + 1).toNat = k' + 1 := by omega
          have hkw : IntKind.i64.wrap (k' : Int) = (k' : Int) := IntWalk.i64_in _ ⟨by omega, by omega⟩
          have hX' : Hid (x2 = X3 ++ (v :: X2)) := Lib.hid (by rw [hx2.out]; simp)
          have hXl' : Hid (i + X3.length = k') := Lib.hid (by have := hXl.out; rw [List.length_append, List.length_singleton] at this; omega)
          clear hg1 hg2 hsw hLn e1 e2 el1 hkl hM hki
          go_upto_region 23 with (fail)
          refine wp_region_pres (fun _ w1 => Own w0 w1 (slc 3 1 (.slice (some ⟨g, 0, none⟩) N c) N (rows ie M) :: ps)) 14 [] [2, 3, 4] (by kernel_rfl) (by kernel_rfl) (by kernel_rfl) (by kernel_rfl) (fun _ _ d _ _ h => by cases d <;> exact h) ⟨_, _, rfl, fun w => (by first | rfl | (go_simp; rfl)), _, _, rfl, fun w => (by first | rfl | (go_simp; rfl)), _, _, rfl, fun w => (by first | rfl | (go_simp; rfl)), rfl⟩ H.drew ?_
          simp only [List.take_succ_cons, List.take_zero, List.drop_succ_cons, List.drop_zero]
          repeat
            first
            | (refine calm_value (v := ?_) (by decide) rfl (fun σ w1 hS => ?_) ?_
               rotate_left
               · obtain ⟨c1, c1'⟩ := el hS.rd HG1.out; obtain ⟨c2, c2'⟩ := el hS.rd HG2.out
                 first | (go_simp; rfl) | rfl
               simp only [Act.put, List.setIfInBounds_toArray, List.set_cons_zero, List.set_cons_succ])
            | (refine calm_skip (by decide) rfl ?_
               simp only [Act.put, List.setIfInBounds_toArray, List.set_cons_zero, List.set_cons_succ])
          refine calm_nil ?_
          intro σ2 wd2 _ H2
          simp only [putNew, List.foldl_nil]
          clear H
          go_wp2_with (first
            | (refine wpList_store_elem rfl _ _ rfl (i := k' + 1) (by first | rfl | (rw [Nat.mul_one]; rfl)) H2 (ie v) rfl (by kernel_rfl) rfl (by omega) (e_one v) ?_; clear H2; intro w5 H; rw [E1.out] at H)
            | (refine wpList_store_elem rfl _ _ rfl (i := k') (by first | rfl | (rw [Nat.mul_one]; rfl)) H (ie u) rfl (by kernel_rfl) rfl (by omega) (e_one u) ?_; clear H; intro w6 H; rw [E2.out] at H))
          go_roundw
          case rel => exact ⟨k', X3, v :: X2, by go_num, by omega, by omega, hX', hXl', H⟩
          case measure => simp [intOf]
        · have hik2 : k = i := by omega
          subst hik2
          have hX10 : X1 = [] := by have := hXl.out; exact List.eq_nil_of_length_eq_zero (by omega)
          have e1 : Hid (x2 = X2) := Lib.hid (by rw [hx2.out, hX10, List.nil_append])
          have el2 : p ++ x1 ++ X1 ++ u :: (X2 ++ q) = p ++ (x1 ++ u :: x2) ++ q := by rw [hX10, e1.out]; simp
          rw [el2] at H
          clear el2 hX10 hki
          go_wp2
          go_end0
          exact ⟨_, rfl, _, HMRG.out, by simpa using H⟩
end
end SI
end Go.Proofs.Ytpbodonmiepilaa
/- The stable sort of slices of ints: the walk of symMerge: what comes behind the search. (Written by tools/srt.py.) -/
namespace Go.Proofs.Ytpbodonmiepilaa
open Go.RowKit
namespace SI
noncomputable def symTail (r : Nat) : Code := ((Try.f103.body.bind (fromR r)).getD .skip)
/-- What symMerge does with two parts of f elements at most. -/
def SymAt (w0 : World) (ps : List Piece) (ok : Int → Prop) (key : Int → Int) (B g c N f : Nat) : Prop :=
  ∀ (w : World) (p x y q : List Int) (a m b : Nat), x.length + y.length ≤ f → (∀ v ∈ x, ok v) → (∀ v ∈ y, ok v) → Srt key x → Srt key y → a = p.length → m = a + x.length → b = m + y.length → 0 < x.length → 0 < y.length → N = (p ++ x ++ y ++ q).length →
    Own w0 w (slc 3 1 (.slice (some ⟨g, 0, none⟩) N c) N (rows ie (p ++ x ++ y ++ q)) :: ps) →
    Calls Try.prog 103 #[.slice (some ⟨g, 0, none⟩) N c, .int .i64 a, .int .i64 m, .int .i64 b, cf B] w (Ret fun _ w' => ∃ z, Mrg key x y z ∧ Own w0 w' (slc 3 1 (.slice (some ⟨g, 0, none⟩) N c) N (rows ie (p ++ z ++ q)) :: ps))
section
variable {w0 : World} {ps : List Piece} {ok : Int → Prop} {key : Int → Int} {B : Nat}
set_option maxRecDepth 1000000 in
set_option maxHeartbeats 12800000 in
theorem tail3 {g c N f : Nat} {p q x y X1 X2 Y1 Y2 : List Int} {a m b s en mid : Nat} {M1 : List Int} (wr : World) (hNb : N ≤ 1000000) (IH : Hid (SymAt w0 ps ok key B g c N f)) (HFINAL : Hid (∀ z1 z2, Mrg key X1 Y1 z1 → Mrg key X2 Y2 z2 → Mrg key x y (z1 ++ z2)))
    (HOX1 : Hid (∀ v ∈ X1, ok v)) (HOX2 : Hid (∀ v ∈ X2, ok v)) (HOY1 : Hid (∀ v ∈ Y1, ok v)) (HOY2 : Hid (∀ v ∈ Y2, ok v)) (HSX1 : Hid (Srt key X1)) (HSX2 : Hid (Srt key X2)) (HSY1 : Hid (Srt key Y1)) (HSY2 : Hid (Srt key Y2))
    (HNL : Hid (N = (p ++ X1 ++ X2 ++ Y1 ++ Y2 ++ q).length)) (HMID2 : Hid (mid + mid ≤ a + b ∧ a + b ≤ mid + mid + 1)) (ham : a + 2 ≤ m) (hmb : m + 2 ≤ b) (hbN : b ≤ N)
    (hlens : Hid (a = p.length ∧ s = a + X1.length ∧ m = s + X2.length ∧ en = m + Y1.length ∧ b = en + Y2.length ∧ mid = s + Y1.length ∧ en = mid + X2.length ∧ X1.length + X2.length + (Y1.length + Y2.length) ≤ f + 1 ∧ 0 < X1.length + X2.length ∧ 0 < Y1.length + Y2.length))
    (hensN1 : en ≤ N) (hensN2 : s ≤ N) (hmN1 : mid ≤ N) (hM1 : Hid (Mrg key X1 Y1 M1)) (z5 z6 z7 z8 z9 z10 z11 z12 z13 z14 z15 z16 z17 z19 z21 z22 z23 z25 z26 z27 z28 z29 z30 z31 z32 z33 z34 z35 z36 z37 z38 z39 z40 z41 z42 z43 z44 z45 z46 z47 z48 z49 z50 z51 z52 z53 z54 z55 z56 z57 z58 z59 z60 z61 z62 z63 z64 z65 z66 z67 z68 z69 z70 z71 z72 z73 z74 z75 z76 z77 z78 z79 z80 z81 z82 z83 z84 z85 z86 z87 z88 z89 z90 z91 z92 z93 z94 z95 z96 z97 z98 z99 z100 z101 z102 z103 z104 z105 z106 z107 z108 z109 z110 z111 z112 z113 z114 z115 z116 z117 z118 z119 z120 z121 z122 z123 z124 z125 z126 z127 z128 z129 z130 z131 z132 z133 z134 z135 z136 z137 z138 z139 z140 z141 z142 z143 z144 z145 z146 z147 z148 z149 z150 z151 z152 z153 z154 z155 z156 z157 z158 z159 z160 z161 z162 z163 z164 z165 z166 z167 z168 z169 z170 z171 z172 z173 z174 z175 z176 z177 z178 z179 z180 z181 z182 z183 z184 z185 z186 z187 z188 z189 z190 z191 z192 z193 z194 z195 z196 z197 z198 z199 z200 z201 z202 z203 z204 z205 z206 z207 z208 z209 z210 z211 z212 z213 z214 z215 z216 z217 z218 z219 : Value)
    (H : Own w0 wr (slc 3 1 (.slice (some ⟨g, 0, none⟩) N c) N (rows ie (p ++ M1 ++ X2 ++ Y2 ++ q)) :: ps)) :
    Code.wp Try.prog (symTail 43) (bodyPost Try.prog Try.f103 (Ret fun _ w' => ∃ z, Mrg key x y z ∧ Own w0 w' (slc 3 1 (.slice (some ⟨g, 0, none⟩) N c) N (rows ie (p ++ z ++ q)) :: ps))) ⟨#[.slice (some ⟨g, 0, none⟩) N c, .int .i64 a, .int .i64 m, .int .i64 b, cf B, z5, z6, z7, z8, z9, z10, z11, z12, z13, z14, z15, z16, z17, .int .i64 mid, z19, .int .i64 s, z21, z22, z23, .int .i64 en, z25, z26, z27, z28, z29, z30, z31, z32, z33, z34, z35, z36, z37, z38, z39, z40, z41, z42, z43, z44, z45, z46, z47, z48, z49, z50, z51, z52, z53, z54, z55, z56, z57, z58, z59, z60, z61, z62, z63, z64, z65, z66, z67, z68, z69, z70, z71, z72, z73, z74, z75, z76, z77, z78, z79, z80, z81, z82, z83, z84, z85, z86, z87, z88, z89, z90, z91, z92, z93, z94, z95, z96, z97, z98, z99, z100, z101, z102, z103, z104, z105, z106, z107, z108, z109, z110, z111, z112, z113, z114, z115, z116, z117, z118, z119, z120, z121, z122, z123, z124, z125, z126, z127, z128, z129, z130, z131, z132, z133, z134, z135, z136, z137, z138, z139, z140, z141, z142, z143, z144, z145, z146, z147, z148, z149, z150, z151, z152, z153, z154, z155, z156, z157, z158, z159, z160, z161, z162, z163, z164, z165, z166, z167, z168, z169, z170, z171, z172, z173, z174, z175, z176, z177, z178, z179, z180, z181, z182, z183, z184, z185, z186, z187, z188, z189, z190, z191, z192, z193, z194, z195, z196, z197, z198, z199, z200, z201, z202, z203, z204, z205, z206, z207, z208, z209, z210, z211, z212, z213, z214, z215, z216, z217, z218, z219], []⟩ wr := by
  conv => arg 2; whnf
  dsimp only
  have hM1l : Hid (M1.length = X1.length + Y1.length) := Lib.hid (by rw [← hM1.out.2.length, List.length_append])
  have hNL3 : Hid (N = (p ++ M1 ++ X2 ++ Y2 ++ q).length) := Lib.hid (by rw [HNL.out]; have := hM1l.out; simp only [List.length_append]; omega)
  obtain ⟨t3, ht3⟩ : ∃ t, Hid ((decide (mid < en) && decide (en < b)) = t) := ⟨_, Lib.hid rfl⟩
  go_upto_region 43 with (fail)
  go_cut [213] (fun s1 wx => s1 = .bool t3 ∧ Own w0 wx (slc 3 1 (.slice (some ⟨g, 0, none⟩) N c) N (rows ie (p ++ M1 ++ X2 ++ Y2 ++ q)) :: ps))
  case first =>
    by_cases h1 : mid < en
    · by_cases h2 : en < b
      · have e : Hid (t3 = true) := Lib.hid (by rw [← ht3.out]; simp [h1, h2])
        go_wp2
        go_meet
        exact ⟨by rw [e.out], H⟩
      · have e : Hid (t3 = false) := Lib.hid (by rw [← ht3.out]; simp [h2])
        go_wp2
        go_meet
        exact ⟨by rw [e.out], H⟩
    · have e : Hid (t3 = false) := Lib.hid (by rw [← ht3.out]; simp [h1])
      go_wp2
      go_meet
      exact ⟨by rw [e.out], H⟩
  case rest =>
  clear H
  obtain ⟨rfl, H⟩ := hcut
  obtain ⟨l1, l2, l3, l4, l5, l6, l7, l8, l9, l10⟩ := hlens.out
  have hM1l' := hM1l.out
  have hm2 := HMID2.out
  cases t3 with
  | true =>
    have h := ht3.out
    simp only [Bool.and_eq_true, decide_eq_true_eq] at h
    have e1 : p ++ M1 ++ X2 ++ Y2 ++ q = (p ++ M1) ++ X2 ++ Y2 ++ q := by simp
    have hr := IH.out wc (p ++ M1) X2 Y2 q mid en b (by omega) HOX2.out HOY2.out HSX2.out HSY2.out (by rw [List.length_append]; omega) l7 l5 (by omega) (by omega) (by rw [← e1]; exact hNL3.out) (by rw [← e1]; exact H)
    have HR := Lib.hid hr
    clear hr l1 l2 l3 l4 l5 l6 l7 l8 l9 l10 h e1 hM1l' hm2
    go_wp2_with fail
    refine HR.out.mono ?_
    rintro e w3 ⟨_, rfl, z, hz, H3⟩
    clear HR H
    go_wp2
    go_end0
    exact ⟨_, rfl, M1 ++ z, HFINAL.out _ _ hM1.out hz, by simpa using H3⟩
  | false =>
    have h := ht3.out
    simp only [Bool.and_eq_false_iff, decide_eq_false_iff_not] at h
    have e1 : Hid (Mrg key X2 Y2 (X2 ++ Y2)) := Lib.hid (by
      rcases h with h | h
      · have : X2 = [] := List.eq_nil_of_length_eq_zero (by omega)
        rw [this]; exact Mrg.right HSY2.out
      · have : Y2 = [] := List.eq_nil_of_length_eq_zero (by omega)
        rw [this, List.append_nil]; exact Mrg.left HSX2.out)
    clear l1 l2 l3 l4 l5 l6 l7 l8 l9 l10 h hM1l' hm2
    go_wp2
    go_end0
    exact ⟨_, rfl, M1 ++ (X2 ++ Y2), HFINAL.out _ _ hM1.out e1.out, by simpa using H⟩

set_option maxRecDepth 1000000 in
set_option maxHeartbeats 12800000 in
theorem tail2 {g c N f : Nat} {p q x y X1 X2 Y1 Y2 : List Int} {a m b s en mid : Nat} (wr : World) (hNb : N ≤ 1000000) (IH : Hid (SymAt w0 ps ok key B g c N f)) (HFINAL : Hid (∀ z1 z2, Mrg key X1 Y1 z1 → Mrg key X2 Y2 z2 → Mrg key x y (z1 ++ z2)))
    (HOX1 : Hid (∀ v ∈ X1, ok v)) (HOX2 : Hid (∀ v ∈ X2, ok v)) (HOY1 : Hid (∀ v ∈ Y1, ok v)) (HOY2 : Hid (∀ v ∈ Y2, ok v)) (HSX1 : Hid (Srt key X1)) (HSX2 : Hid (Srt key X2)) (HSY1 : Hid (Srt key Y1)) (HSY2 : Hid (Srt key Y2))
    (HNL : Hid (N = (p ++ X1 ++ X2 ++ Y1 ++ Y2 ++ q).length)) (HMID2 : Hid (mid + mid ≤ a + b ∧ a + b ≤ mid + mid + 1)) (ham : a + 2 ≤ m) (hmb : m + 2 ≤ b) (hbN : b ≤ N)
    (hlens : Hid (a = p.length ∧ s = a + X1.length ∧ m = s + X2.length ∧ en = m + Y1.length ∧ b = en + Y2.length ∧ mid = s + Y1.length ∧ en = mid + X2.length ∧ X1.length + X2.length + (Y1.length + Y2.length) ≤ f + 1 ∧ 0 < X1.length + X2.length ∧ 0 < Y1.length + Y2.length))
    (hensN1 : en ≤ N) (hensN2 : s ≤ N) (hmN1 : mid ≤ N) (z5 z6 z7 z8 z9 z10 z11 z12 z13 z14 z15 z16 z17 z19 z21 z22 z23 z25 z26 z27 z28 z29 z30 z31 z32 z33 z34 z35 z36 z37 z38 z39 z40 z41 z42 z43 z44 z45 z46 z47 z48 z49 z50 z51 z52 z53 z54 z55 z56 z57 z58 z59 z60 z61 z62 z63 z64 z65 z66 z67 z68 z69 z70 z71 z72 z73 z74 z75 z76 z77 z78 z79 z80 z81 z82 z83 z84 z85 z86 z87 z88 z89 z90 z91 z92 z93 z94 z95 z96 z97 z98 z99 z100 z101 z102 z103 z104 z105 z106 z107 z108 z109 z110 z111 z112 z113 z114 z115 z116 z117 z118 z119 z120 z121 z122 z123 z124 z125 z126 z127 z128 z129 z130 z131 z132 z133 z134 z135 z136 z137 z138 z139 z140 z141 z142 z143 z144 z145 z146 z147 z148 z149 z150 z151 z152 z153 z154 z155 z156 z157 z158 z159 z160 z161 z162 z163 z164 z165 z166 z167 z168 z169 z170 z171 z172 z173 z174 z175 z176 z177 z178 z179 z180 z181 z182 z183 z184 z185 z186 z187 z188 z189 z190 z191 z192 z193 z194 z195 z196 z197 z198 z199 z200 z201 z202 z203 z204 z205 z206 z207 z208 z209 z210 z211 z212 z213 z214 z215 z216 z217 z218 z219 : Value)
    (H : Own w0 wr (slc 3 1 (.slice (some ⟨g, 0, none⟩) N c) N (rows ie (p ++ X1 ++ Y1 ++ X2 ++ Y2 ++ q)) :: ps)) :
    Code.wp Try.prog (symTail 41) (bodyPost Try.prog Try.f103 (Ret fun _ w' => ∃ z, Mrg key x y z ∧ Own w0 w' (slc 3 1 (.slice (some ⟨g, 0, none⟩) N c) N (rows ie (p ++ z ++ q)) :: ps))) ⟨#[.slice (some ⟨g, 0, none⟩) N c, .int .i64 a, .int .i64 m, .int .i64 b, cf B, z5, z6, z7, z8, z9, z10, z11, z12, z13, z14, z15, z16, z17, .int .i64 mid, z19, .int .i64 s, z21, z22, z23, .int .i64 en, z25, z26, z27, z28, z29, z30, z31, z32, z33, z34, z35, z36, z37, z38, z39, z40, z41, z42, z43, z44, z45, z46, z47, z48, z49, z50, z51, z52, z53, z54, z55, z56, z57, z58, z59, z60, z61, z62, z63, z64, z65, z66, z67, z68, z69, z70, z71, z72, z73, z74, z75, z76, z77, z78, z79, z80, z81, z82, z83, z84, z85, z86, z87, z88, z89, z90, z91, z92, z93, z94, z95, z96, z97, z98, z99, z100, z101, z102, z103, z104, z105, z106, z107, z108, z109, z110, z111, z112, z113, z114, z115, z116, z117, z118, z119, z120, z121, z122, z123, z124, z125, z126, z127, z128, z129, z130, z131, z132, z133, z134, z135, z136, z137, z138, z139, z140, z141, z142, z143, z144, z145, z146, z147, z148, z149, z150, z151, z152, z153, z154, z155, z156, z157, z158, z159, z160, z161, z162, z163, z164, z165, z166, z167, z168, z169, z170, z171, z172, z173, z174, z175, z176, z177, z178, z179, z180, z181, z182, z183, z184, z185, z186, z187, z188, z189, z190, z191, z192, z193, z194, z195, z196, z197, z198, z199, z200, z201, z202, z203, z204, z205, z206, z207, z208, z209, z210, z211, z212, z213, z214, z215, z216, z217, z218, z219], []⟩ wr := by
  conv => arg 2; whnf
  dsimp only
  have hNL2 : Hid (N = (p ++ X1 ++ Y1 ++ X2 ++ Y2 ++ q).length) := Lib.hid (by rw [HNL.out]; simp only [List.length_append]; omega)
  obtain ⟨t2, ht2⟩ : ∃ t, Hid ((decide (a < s) && decide (s < mid)) = t) := ⟨_, Lib.hid rfl⟩
  go_upto_region 41 with (fail)
  go_cut [199] (fun s1 wx => s1 = .bool t2 ∧ Own w0 wx (slc 3 1 (.slice (some ⟨g, 0, none⟩) N c) N (rows ie (p ++ X1 ++ Y1 ++ X2 ++ Y2 ++ q)) :: ps))
  case first =>
    by_cases h1 : a < s
    · by_cases h2 : s < mid
      · have e : Hid (t2 = true) := Lib.hid (by rw [← ht2.out]; simp [h1, h2])
        go_wp2
        go_meet
        exact ⟨by rw [e.out], H⟩
      · have e : Hid (t2 = false) := Lib.hid (by rw [← ht2.out]; simp [h2])
        go_wp2
        go_meet
        exact ⟨by rw [e.out], H⟩
    · have e : Hid (t2 = false) := Lib.hid (by rw [← ht2.out]; simp [h1])
      go_wp2
      go_meet
      exact ⟨by rw [e.out], H⟩
  case rest =>
  clear H
  obtain ⟨rfl, H⟩ := hcut
  go_upto_if 199 with (fail)
  go_cut [] (fun wx => ∃ M1, Hid (Mrg key X1 Y1 M1) ∧ Own w0 wx (slc 3 1 (.slice (some ⟨g, 0, none⟩) N c) N (rows ie (p ++ M1 ++ X2 ++ Y2 ++ q)) :: ps))
  case first =>
    obtain ⟨l1, l2, l3, l4, l5, l6, l7, l8, l9, l10⟩ := hlens.out
    have hm2 := HMID2.out
    cases t2 with
    | true =>
      have h := ht2.out
      simp only [Bool.and_eq_true, decide_eq_true_eq] at h
      have e1 : p ++ X1 ++ Y1 ++ X2 ++ Y2 ++ q = p ++ X1 ++ Y1 ++ (X2 ++ Y2 ++ q) := by simp
      have hr := IH.out wc p X1 Y1 (X2 ++ Y2 ++ q) a s mid (by omega) HOX1.out HOY1.out HSX1.out HSY1.out l1 l2 l6 (by omega) (by omega) (by rw [← e1]; exact hNL2.out) (by rw [← e1]; exact H)
      have HR := Lib.hid hr
      clear hr l1 l2 l3 l4 l5 l6 l7 l8 l9 l10 h e1 hm2
      go_wp2_with fail
      refine HR.out.mono ?_
      rintro e w3 ⟨_, rfl, z, hz, H3⟩
      clear HR H
      go_wp2
      go_meet
      exact ⟨z, Lib.hid hz, by simpa using H3⟩
    | false =>
      have h := ht2.out
      simp only [Bool.and_eq_false_iff, decide_eq_false_iff_not] at h
      have e1 : Hid (Mrg key X1 Y1 (X1 ++ Y1)) := Lib.hid (by
        rcases h with h | h
        · have : X1 = [] := List.eq_nil_of_length_eq_zero (by omega)
          rw [this]; exact Mrg.right HSY1.out
        · have : Y1 = [] := List.eq_nil_of_length_eq_zero (by omega)
          rw [this, List.append_nil]; exact Mrg.left HSX1.out)
      clear l1 l2 l3 l4 l5 l6 l7 l8 l9 l10 h hm2
      go_wp2
      go_meet
      exact ⟨X1 ++ Y1, e1, by simpa using H⟩
  case rest =>
  clear H
  obtain ⟨M1, hM1, H⟩ := hcut
  apply_assumption
  exact tail3 (p := p) (q := q) (x := x) (y := y) (X1 := X1) (X2 := X2) (Y1 := Y1) (Y2 := Y2) (a := a) (m := m) (b := b) (s := s) (en := en) (mid := mid) (M1 := M1) wc hNb IH HFINAL HOX1 HOX2 HOY1 HOY2 HSX1 HSX2 HSY1 HSY2 HNL HMID2 ham hmb hbN hlens hensN1 hensN2 hmN1 hM1 _ _ _ _ _ _ _ _ _ _ _ _ _ _ _ _ _ _ _ _ _ _ _ _ _ _ _ _ _ _ _ _ _ _ _ _ _ _ _ _ _ _ _ _ _ _ _ _ _ _ _ _ _ _ _ _ _ _ _ _ _ _ _ _ _ _ _ _ _ _ _ _ _ _ _ _ _ _ _ _ _ _ _ _ _ _ _ _ _ _ _ _ _ _ _ _ _ _ _ _ _ _ _ _ _ _ _ _ _ _ _ _ _ _ _ _ _ _ _ _ _ _ _ _ _ _ _ _ _ _ _ _ _ _ _ _ _ _ _ _ _ _ _ _ _ _ _ _ _ _ _ _ _ _ _ _ _ _ _ _ _ _ _ _ _ _ _ _ _ _ _ _ _ _ _ _ _ _ _ _ _ _ _ _ _ _ _ _ _ _ _ _ _ _ _ _ _ _ _ _ _ _ _ _ _ _ _ _ _ _ _ _ H

set_option maxRecDepth 1000000 in
set_option maxHeartbeats 12800000 in
theorem tail_any {g c N f : Nat} {p q x y X1 X2 Y1 Y2 : List Int} {a m b s en mid : Nat} {n : Nat} (wr : World) (hNb : N ≤ 1000000) (IH : Hid (SymAt w0 ps ok key B g c N f)) (HFINAL : Hid (∀ z1 z2, Mrg key X1 Y1 z1 → Mrg key X2 Y2 z2 → Mrg key x y (z1 ++ z2)))
    (HOX1 : Hid (∀ v ∈ X1, ok v)) (HOX2 : Hid (∀ v ∈ X2, ok v)) (HOY1 : Hid (∀ v ∈ Y1, ok v)) (HOY2 : Hid (∀ v ∈ Y2, ok v)) (HSX1 : Hid (Srt key X1)) (HSX2 : Hid (Srt key X2)) (HSY1 : Hid (Srt key Y1)) (HSY2 : Hid (Srt key Y2))
    (HNL : Hid (N = (p ++ X1 ++ X2 ++ Y1 ++ Y2 ++ q).length)) (HMID2 : Hid (mid + mid ≤ a + b ∧ a + b ≤ mid + mid + 1)) (ham : a + 2 ≤ m) (hmb : m + 2 ≤ b) (hbN : b ≤ N)
    (hlens : Hid (a = p.length ∧ s = a + X1.length ∧ m = s + X2.length ∧ en = m + Y1.length ∧ b = en + Y2.length ∧ mid = s + Y1.length ∧ en = mid + X2.length ∧ X1.length + X2.length + (Y1.length + Y2.length) ≤ f + 1 ∧ 0 < X1.length + X2.length ∧ 0 < Y1.length + Y2.length))
    (hensN1 : en ≤ N) (hensN2 : s ≤ N) (hmN1 : mid ≤ N) (henI : ((n : Int) - (s : Int)) = (en : Int)) (hsn : s ≤ n) (hmN2 : n ≤ 2 * N) (z5 z6 z7 z8 z9 z10 z11 z12 z13 z14 z15 z16 z17 z21 z22 z23 z24 z25 z26 z27 z28 z29 z30 z31 z32 z33 z34 z35 z36 z37 z38 z39 z40 z41 z42 z43 z44 z45 z46 z47 z48 z49 z50 z51 z52 z53 z54 z55 z56 z57 z58 z59 z60 z61 z62 z63 z64 z65 z66 z67 z68 z69 z70 z71 z72 z73 z74 z75 z76 z77 z78 z79 z80 z81 z82 z83 z84 z85 z86 z87 z88 z89 z90 z91 z92 z93 z94 z95 z96 z97 z98 z99 z100 z101 z102 z103 z104 z105 z106 z107 z108 z109 z110 z111 z112 z113 z114 z115 z116 z117 z118 z119 z120 z121 z122 z123 z124 z125 z126 z127 z128 z129 z130 z131 z132 z133 z134 z135 z136 z137 z138 z139 z140 z141 z142 z143 z144 z145 z146 z147 z148 z149 z150 z151 z152 z153 z154 z155 z156 z157 z158 z159 z160 z161 z162 z163 z164 z165 z166 z167 z168 z169 z170 z171 z172 z173 z174 z175 z176 z177 z178 z179 z180 z181 z182 z183 z184 z185 z186 z187 z188 z189 z190 z191 z192 z193 z194 z195 z196 z197 z198 z199 z200 z201 z202 z203 z204 z205 z206 z207 z208 z209 z210 z211 z212 z213 z214 z215 z216 z217 z218 z219 : Value)
    (H : Own w0 wr (slc 3 1 (.slice (some ⟨g, 0, none⟩) N c) N (rows ie (p ++ X1 ++ X2 ++ Y1 ++ Y2 ++ q)) :: ps)) :
    Code.wp Try.prog (symTail 38) (bodyPost Try.prog Try.f103 (Ret fun _ w' => ∃ z, Mrg key x y z ∧ Own w0 w' (slc 3 1 (.slice (some ⟨g, 0, none⟩) N c) N (rows ie (p ++ z ++ q)) :: ps))) ⟨#[.slice (some ⟨g, 0, none⟩) N c, .int .i64 a, .int .i64 m, .int .i64 b, cf B, z5, z6, z7, z8, z9, z10, z11, z12, z13, z14, z15, z16, z17, .int .i64 mid, .int .i64 n, .int .i64 s, z21, z22, z23, z24, z25, z26, z27, z28, z29, z30, z31, z32, z33, z34, z35, z36, z37, z38, z39, z40, z41, z42, z43, z44, z45, z46, z47, z48, z49, z50, z51, z52, z53, z54, z55, z56, z57, z58, z59, z60, z61, z62, z63, z64, z65, z66, z67, z68, z69, z70, z71, z72, z73, z74, z75, z76, z77, z78, z79, z80, z81, z82, z83, z84, z85, z86, z87, z88, z89, z90, z91, z92, z93, z94, z95, z96, z97, z98, z99, z100, z101, z102, z103, z104, z105, z106, z107, z108, z109, z110, z111, z112, z113, z114, z115, z116, z117, z118, z119, z120, z121, z122, z123, z124, z125, z126, z127, z128, z129, z130, z131, z132, z133, z134, z135, z136, z137, z138, z139, z140, z141, z142, z143, z144, z145, z146, z147, z148, z149, z150, z151, z152, z153, z154, z155, z156, z157, z158, z159, z160, z161, z162, z163, z164, z165, z166, z167, z168, z169, z170, z171, z172, z173, z174, z175, z176, z177, z178, z179, z180, z181, z182, z183, z184, z185, z186, z187, z188, z189, z190, z191, z192, z193, z194, z195, z196, z197, z198, z199, z200, z201, z202, z203, z204, z205, z206, z207, z208, z209, z210, z211, z212, z213, z214, z215, z216, z217, z218, z219], []⟩ wr := by
  conv => arg 2; whnf
  dsimp only
  obtain ⟨t1, ht1⟩ : ∃ t, Hid ((decide (s < m) && decide (m < en)) = t) := ⟨_, Lib.hid rfl⟩
  go_upto_region 39 with (fail)
  go_cut [185] (fun s1 wx => s1 = .bool t1 ∧ Own w0 wx (slc 3 1 (.slice (some ⟨g, 0, none⟩) N c) N (rows ie (p ++ X1 ++ X2 ++ Y1 ++ Y2 ++ q)) :: ps))
  case first =>
    by_cases h1 : s < m
    · by_cases h2 : m < en
      · have e : Hid (t1 = true) := Lib.hid (by rw [← ht1.out]; simp [h1, h2])
        go_wp2
        go_meet
        exact ⟨by rw [e.out], H⟩
      · have e : Hid (t1 = false) := Lib.hid (by rw [← ht1.out]; simp [h2])
        go_wp2
        go_meet
        exact ⟨by rw [e.out], H⟩
    · have e : Hid (t1 = false) := Lib.hid (by rw [← ht1.out]; simp [h1])
      go_wp2
      go_meet
      exact ⟨by rw [e.out], H⟩
  case rest =>
  clear H
  obtain ⟨rfl, H⟩ := hcut
  go_upto_if 185 with (fail)
  go_cut [] (fun wx => Own w0 wx (slc 3 1 (.slice (some ⟨g, 0, none⟩) N c) N (rows ie (p ++ X1 ++ Y1 ++ X2 ++ Y2 ++ q)) :: ps))
  case first =>
    obtain ⟨l1, l2, l3, l4, l5, l6, l7, l8, l9, l10⟩ := hlens.out
    cases t1 with
    | true =>
      have h := ht1.out
      simp only [Bool.and_eq_true, decide_eq_true_eq] at h
      have e1 : p ++ X1 ++ X2 ++ Y1 ++ Y2 ++ q = (p ++ X1) ++ X2 ++ Y1 ++ (Y2 ++ q) := by simp
      have hr := rotate_any (w0 := w0) (w := wc) (ps := ps) (g := g) (c := c) (N := N) (p := p ++ X1) (x := X2) (y := Y1) (q := Y2 ++ q) (a := s) (m := m) (b := en) (cf B) (by rw [List.length_append]; omega) l3 l4 (by omega) (by omega) (by rw [← e1]; exact HNL.out) hNb (by rw [← e1]; exact H)
      have HR := Lib.hid hr
      clear hr l1 l2 l3 l4 l5 l6 l7 l8 l9 l10 h e1
      go_wp2_with fail
      refine HR.out.mono ?_
      rintro e w3 ⟨_, rfl, H3⟩
      clear HR H
      go_wp2
      go_meet
      simpa using H3
    | false =>
      have h := ht1.out
      simp only [Bool.and_eq_false_iff, decide_eq_false_iff_not] at h
      have e1 : p ++ X1 ++ X2 ++ Y1 ++ Y2 ++ q = p ++ X1 ++ Y1 ++ X2 ++ Y2 ++ q := by
        rcases h with h | h
        · have : X2 = [] := List.eq_nil_of_length_eq_zero (by omega)
          rw [this]; simp
        · have : Y1 = [] := List.eq_nil_of_length_eq_zero (by omega)
          rw [this]; simp
      rw [e1] at H
      clear l1 l2 l3 l4 l5 l6 l7 l8 l9 l10 h e1
      go_wp2
      go_meet
      exact H
  case rest =>
  clear H
  have H := hcut
  clear hcut
  apply_assumption
  exact tail2 (p := p) (q := q) (x := x) (y := y) (X1 := X1) (X2 := X2) (Y1 := Y1) (Y2 := Y2) (a := a) (m := m) (b := b) (s := s) (en := en) (mid := mid) wc hNb IH HFINAL HOX1 HOX2 HOY1 HOY2 HSX1 HSX2 HSY1 HSY2 HNL HMID2 ham hmb hbN hlens hensN1 hensN2 hmN1 _ _ _ _ _ _ _ _ _ _ _ _ _ _ _ _ _ _ _ _ _ _ _ _ _ _ _ _ _ _ _ _ _ _ _ _ _ _ _ _ _ _ _ _ _ _ _ _ _ _ _ _ _ _ _ _ _ _ _ _ _ _ _ _ _ _ _ _ _ _ _ _ _ _ _ _ _ _ _ _ _ _ _ _ _ _ _ _ _ _ _ _ _ _ _ _ _ _ _ _ _ _ _ _ _ _ _ _ _ _ _ _ _ _ _ _ _ _ _ _ _ _ _ _ _ _ _ _ _ _ _ _ _ _ _ _ _ _ _ _ _ _ _ _ _ _ _ _ _ _ _ _ _ _ _ _ _ _ _ _ _ _ _ _ _ _ _ _ _ _ _ _ _ _ _ _ _ _ _ _ _ _ _ _ _ _ _ _ _ _ _ _ _ _ _ _ _ _ _ _ _ _ _ _ _ _ _ _ _ _ _ _ H
end
end SI
end Go.Proofs.Ytpbodonmiepilaa
