/-
  Bits: the walks of the writer.
-/
import Derived.Test.YtbooacglmeoceaaBitsP
import Derived.Test.YtbooacglmeoceaaReg
import Derived.Test.YtbooacglmeoceaaBit
import Derived.Test.YtbooacglmeoceaaRows
import Derived.WalkSpells
import Derived.WalkLawsBesides
import Derived.BigQuiet
import Derived.Deep.DeepCutAuto
import Derived.Deep.CutBlock
import Derived.Deep.LoopGhost
import Derived.Deep.QuietTactic
namespace Go.Proofs.Ytbooacglmeoceaa
open Go.RowKit

def u8s (xs : List Int) : List Value := xs.map (.int .u8)
/-- A writer of these bits, behind the pointer ⟨g, 0⟩. -/
def Wtr (g : Nat) (bs : List Bool) : Piece := ex fun v => star (blk g (.cells #[v, .int .i64 bs.length] 25)) (slc 5 1 v (nbytes bs.length) (u8s (bytesOf bs)))
theorem Own.wtr {w0 w : World} {ps : List Piece} {g : Nat} {bs : List Bool} (H : Own w0 w (Wtr g bs :: ps)) :
    ∃ a c, nbytes bs.length ≤ c ∧ c ≤ 9223372036854775807 ∧ Own w0 w (blk g (.cells #[.slice a (nbytes bs.length) c, .int .i64 bs.length] 25) :: slc 5 1 (.slice a (nbytes bs.length) c) (nbytes bs.length) (u8s (bytesOf bs)) :: ps) := by
  obtain ⟨v, H⟩ := H.ex
  replace H := H.star
  obtain ⟨a, c, rfl, h1, h2⟩ := (H.front 1 rfl).rd.shape
  exact ⟨a, c, h1, h2, H⟩
theorem Own.unwtr {w0 w : World} {ps : List Piece} {g : Nat} {bs : List Bool} {v : Value} {n m : Nat} {xs : List Value} (H : Own w0 w (blk g (.cells #[v, .int .i64 n] 25) :: slc 5 1 v m xs :: ps)) (hn : n = bs.length) (hm : m = nbytes bs.length) (hx : xs = u8s (bytesOf bs)) : Own w0 w (Wtr g bs :: ps) := by
  subst hn hm hx
  exact H.unstar.unex v
theorem u8Info : (Try.prog.info? 5).map (fun i => (i.zero, i.size, i.bytes)) = some (some (.int .u8 0), 1, 1) := by kernel_rfl

set_option maxHeartbeats 400000 in
theorem bit_any {w0 w : World} {ps : List Piece} {g : Nat} {bs : List Bool} (b : Bool) (H : Own w0 w (Wtr g bs :: ps)) (hl : bs.length ≤ 35184372088832) :
    Calls Try.prog 32 #[.pointer (some ⟨g, 0, none⟩), .int .i64 (bi b)] w (Ret fun _ w' => Own w0 w' (Wtr g (bs ++ [b]) :: ps)) := by
  have hb := bi_bd b
  obtain ⟨c, hcc⟩ : ∃ c, Hid (bi b = c) := ⟨_, rfl⟩
  rw [hcc.out] at hb ⊢
  obtain ⟨hb0, hb1⟩ := hb
  obtain ⟨m, hm⟩ : ∃ m, Hid (bs.length = m) := ⟨_, rfl⟩
  have hlm := hl
  rw [hm.out] at hlm
  obtain ⟨a, cp, hc1, hc2, H⟩ := H.wtr
  rw [hm.out] at H hc1
  have c0 := H.cells
  go_enter Try.func32, Try.ntmps32
  obtain ⟨r, hr⟩ : ∃ r, Hid (r = m % 8) := ⟨_, Lib.hid rfl⟩
  obtain ⟨q, hq⟩ : ∃ q, Hid (q = m / 8) := ⟨_, Lib.hid rfl⟩
  have hrt : (m : Int).tmod 8 = (r : Int) := by have := hr.out; rw [Int.tmod_eq_emod_of_nonneg (by omega)]; omega
  have hqt : (m : Int).tdiv 8 = (q : Int) := by have := hq.out; rw [Int.tdiv_eq_ediv_of_nonneg (by omega)]; omega
  have hrt' : (m : Int) % 8 = (r : Int) := by have := hr.out; omega
  have hqt' : (m : Int) / 8 = (q : Int) := by have := hq.out; omega
  have hr8 : r < 8 := by have := hr.out; omega
  have hsn := Lib.hid (bytesOf_snoc bs b)
  go_upto_if 9 with (fail)
  go_cut [] (fun wx => ∃ a c N L, N = nbytes (m + 1) ∧ N ≤ c ∧ c ≤ 9223372036854775807 ∧ Hid (L = if bs.length % 8 = 0 then bytesOf bs ++ [0] else bytesOf bs) ∧ Own w0 wx (blk g (.cells #[.slice a N c, .int .i64 m] 25) :: slc 5 1 (.slice a N c) N (u8s L) :: ps))
  case first =>
    by_cases h0 : r = 0
    · subst h0
      go_wp2_with (first
        | (at_builtin; refine wpList_append_one rfl _ _ rfl Try.underlying23 u8Info rfl (by decide) rfl H.swap rfl rfl rfl (by simp [Value.oneCell']) (by unfold nbytes; omega) (by unfold nbytes; omega) ?_; clear H c0; intro v' w' H; replace H := H.swap)
        | (obtain ⟨a', c', rfl, h1', h2'⟩ := (H.front 1 rfl).rd.shape; refine wpList_store_slice rfl _ _ rfl rfl H rfl (by kernel_rfl) (by simp) ?_; clear H; intro w2 H))
      go_meet
      exact ⟨a', c', nbytes m + 1, bytesOf bs ++ [0], by have := hr.out; unfold nbytes; omega, h1', h2', Lib.hid (by rw [if_pos (by have := hr.out; rw [hm.out]; omega)]), by simpa [u8s] using H⟩
    · have h0' : ((r : Int) == 0) = false := by simpa using h0
      go_wp2
      go_meet
      exact ⟨a, cp, nbytes m, bytesOf bs, by have := hr.out; unfold nbytes; omega, hc1, hc2, Lib.hid (by rw [if_neg (by have := hr.out; rw [hm.out]; omega)]), H⟩
  case rest =>
    clear H c0
    obtain ⟨a, cp, N, L, hN, hc1, hc2, hL, H⟩ := hcut
    obtain ⟨k1, k2, k3⟩ := hsn.out L hL.out
    rw [hm.out] at k1 k2 k3
    rw [← hq.out] at k2 k3
    rw [← hr.out] at k3
    have hqN : q < N := by have := hq.out; unfold nbytes at hN; omega
    have hqN' : (q : Int) < (N : Int) := by omega
    replace hN := Lib.hid hN
    have hwq : IntKind.i64.wrap (q : Int) = q := IntWalk.i64_in _ ⟨by omega, by omega⟩
    have hwr : IntKind.i64.wrap (r : Int) = r := IntWalk.i64_in _ ⟨by omega, by omega⟩
    have hx0 := (byteAt_bd bs q).1
    have hx1 := byteAt_bd' bs
    rw [hm.out, ← hq.out, ← hr.out] at hx1
    obtain ⟨x, hx⟩ : ∃ x, Hid (byteAt bs q = x) := ⟨_, rfl⟩
    rw [hx.out] at hx0 hx1 k2 k3
    have hlen : 0 < (u8s L).length := by have := hN.out; simp [u8s]; omega
    obtain ⟨g2, c', e, _, _, _, _, _, _⟩ := (H.front 1 rfl).at hlen
    cases e
    have hu : Hid ((u8s L)[q]? = some (.int .u8 x)) := Lib.hid (by simp [u8s, k2])
    have hor := or8 hr8 hx0 hx1 hb0 hb1
    obtain ⟨y, hy⟩ : ∃ y, Hid (x + 2 ^ r * c = y) := ⟨_, rfl⟩
    rw [hy.out] at hor
    go_upto_region 2 with (fail)
    refine wp_region_calm (fun w1 => Own w0 w1 (blk g (.cells #[.slice (some ⟨g2, 0, none⟩) N cp, .int .i64 m] 25) :: slc 5 1 (.slice (some ⟨g2, 0, none⟩) N cp) N (u8s L) :: ps)) 20 (by kernel_rfl) (by kernel_rfl) H.drew ?_
    simp only [List.take_succ_cons, List.take_zero, List.drop_succ_cons, List.drop_zero]
    repeat
      refine calm_value (v := ?_) (by decide) rfl (fun σ w1 hS => ?_) ?_; rotate_left
      · have c0 := hS.cells
        obtain ⟨_, _, e, _, _, _, _, c1, _⟩ := (hS.front 1 rfl).at hlen
        cases e
        replace c1 := c1 q _ hu.out
        first | (go_simp; rfl) | rfl
      simp only [Act.put, List.setIfInBounds_toArray, List.set_cons_zero, List.set_cons_succ]
    refine calm_nil ?_
    intro wd HD
    clear H
    go_wp2_with (first
      | (refine wpList_store_slc rfl _ _ rfl rfl HD.swap (.int .u8 y) rfl (by kernel_rfl) hqN rfl ?_; clear HD; intro w2 HD; replace HD := HD.swap; have c0 := HD.cells)
      | (refine wpList_store_int rfl _ _ rfl rfl HD rfl (by kernel_rfl) (by simp) ?_; clear HD c0; intro w3 HD))
    go_end0
    refine ⟨_, rfl, HD.unwtr (n := m + 1) ?_ ?_ ?_⟩
    · simp [hm.out]
    · have := hN.out; simp [hm.out]; exact this
    · rw [k3, hcc.out, hy.out]; simp [u8s]
end Go.Proofs.Ytbooacglmeoceaa
