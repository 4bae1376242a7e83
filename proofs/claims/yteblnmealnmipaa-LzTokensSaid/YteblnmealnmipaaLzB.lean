/-
  lz: the walks of put and find.
-/
import Derived.Test.YteblnmealnmipaaLzA
import Derived.Test.YteblnmealnmipaaMapC
import Derived.Test.YteblnmealnmipaaRow
namespace Go.Proofs.Yteblnmealnmipaa
open Go.RowKit Go.Maps

/-- What the map has. -/
def gOf (s : ByteArray) (i : Nat) : UInt8 × UInt8 × UInt8 → Int := fun k => (prev s k i : Int)
theorem gOf_zero (s : ByteArray) : gOf s 0 = fun _ => 0 := rfl
theorem gOf_put {s : ByteArray} {i : Nat} (h : i + 3 ≤ s.size) : gOf s (i + 1) = fun x => if x = key3 s i then (i : Int) + 1 else gOf s i x := by
  funext x
  unfold gOf
  rw [prev]
  by_cases hx : x = key3 s i
  · subst hx
    rw [if_pos ⟨h, rfl⟩, if_pos rfl]
    omega
  · rw [if_neg (fun hh => hx hh.2.symm), if_neg hx]
theorem gOf_skip {s : ByteArray} {i : Nat} (h : ¬ i + 3 ≤ s.size) : gOf s (i + 1) = gOf s i := by
  funext x
  unfold gOf
  rw [prev, if_neg (fun hh => h hh.1)]
structure Backs (s : ByteArray) (i : Nat) (xs : List Int) : Prop where
  len : xs.length = s.size
  get : ∀ q, q < i → q + 3 ≤ s.size → xs[q]? = some (prev s (key3 s q) q : Int)
theorem Backs.put {s : ByteArray} {i : Nat} {xs : List Int} (h : Backs s i xs) (hi : i + 3 ≤ s.size) : Backs s (i + 1) (xs.set i (prev s (key3 s i) i : Int)) := by
  refine ⟨by simpa using h.len, fun q h1 h2 => ?_⟩
  have hl := h.len
  rw [List.getElem?_set]
  by_cases hq : i = q
  · subst hq
    rw [if_pos rfl, if_pos (by omega)]
  · rw [if_neg hq]
    exact h.get q (by omega) h2
theorem Backs.skip {s : ByteArray} {i : Nat} {xs : List Int} (h : Backs s i xs) (hi : ¬ i + 3 ≤ s.size) : Backs s (i + 1) xs :=
  ⟨h.len, fun q h1 h2 => h.get q (by omega) h2⟩
/-- A finder that noted the places ahead of i. -/
def Fnd (g : Nat) (s : ByteArray) (i : Nat) : Piece := ex fun p : Nat × Value × List Int =>
  star (blk g (.cells #[.string s, .map (some p.1), p.2.1] 44)) (star (mpi Try.prog 49 3 k3 p.1 i (gOf s i)) (star (slc 3 1 p.2.1 s.size (nums p.2.2)) (fact (Backs s i p.2.2))))
section
variable {w0 w : World} {ps : List Piece} {g b i : Nat} {s : ByteArray} {xs : List Int} {v : Value}
theorem fnd_open (h : Own w0 w (Fnd g s i :: ps)) : ∃ b v xs, Backs s i xs ∧ Own w0 w (blk g (.cells #[.string s, .map (some b), v] 44) :: mpi Try.prog 49 3 k3 b i (gOf s i) :: slc 3 1 v s.size (nums xs) :: ps) := by
  obtain ⟨⟨b, v, xs⟩, h⟩ := h.ex
  have h := h.star.swap.star.swap.star.swap.fact
  exact ⟨b, v, xs, h.1, (h.2.swap.front 2 rfl)⟩
theorem fnd_shut (hb : Backs s i xs) (h : Own w0 w (blk g (.cells #[.string s, .map (some b), v] 44) :: mpi Try.prog 49 3 k3 b i (gOf s i) :: slc 3 1 v s.size (nums xs) :: ps)) : Own w0 w (Fnd g s i :: ps) :=
  Own.unex (f := fun p : Nat × Value × List Int => Go.Proofs.Yteblnmealnmipaa.star (blk g (.cells #[.string s, .map (some p.1), p.2.1] 44)) (Go.Proofs.Yteblnmealnmipaa.star (mpi Try.prog 49 3 k3 p.1 i (gOf s i)) (Go.Proofs.Yteblnmealnmipaa.star (slc 3 1 p.2.1 s.size (nums p.2.2)) (Go.Proofs.Yteblnmealnmipaa.fact (Backs s i p.2.2))))) (b, v, xs)
    ((((h.front 2 rfl).unfact hb).swap.unstar.front 2 rfl).unstar.swap.unstar)
end
theorem intZero : ∀ w, (zeroValue 3).run Try.prog w = .ok (.int .i64 0) w := fun w => by kernel_rfl

set_option maxHeartbeats 1600000 in
theorem fput_any {w0 w : World} {ps : List Piece} {g i : Nat} {s : ByteArray} (H : Own w0 w (Fnd g s i :: ps)) (hi : i < s.size) (hs : s.size ≤ 1000000) :
    Calls Try.prog 17 #[.pointer (some ⟨g, 0, none⟩), .int .i64 i] w (Ret fun _ w' => Own w0 w' (Fnd g s (i + 1) :: ps)) := by
  obtain ⟨b, v, xs, hb, H⟩ := fnd_open H
  have c0 := H.cells
  obtain ⟨z, hz⟩ : ∃ z, Hid (s.size = z) := ⟨_, rfl⟩
  by_cases h3 : i + 3 ≤ s.size
  · have h3I : (i : Int) + 3 ≤ (s.size : Int) := by omega
    have HB := Lib.hid (hb.put h3)
    clear hb
    obtain ⟨kl, hkl⟩ := k3_key w (key3 s i)
    have HK := Lib.hid hkl
    clear hkl
    obtain ⟨rb, c, rfl, hc1, hc2, _⟩ := (H.front 2 rfl).at (by rw [nums_length]; have := HB.out.len; simp at this; omega)
    go_enter Try.func17, Try.ntmps17
    go_wp2_with fail
    refine (fkey_any H h3 hs).mono ?_
    rintro e w1 ⟨_, rfl, rfl, H1⟩
    clear H c0
    obtain ⟨x0, x1, x2, hk⟩ : ∃ x0 x1 x2 : Int, Hid (k3 (key3 s i) = .agg #[.int .u8 x0, .int .u8 x1, .int .u8 x2]) := ⟨_, _, _, Lib.hid rfl⟩
    rw [hk.out]
    have hupd := Lib.hid (gOf_put h3)
    have hlk : Hid (gOf s i (key3 s i) = (prev s (key3 s i) i : Int)) := Lib.hid rfl
    obtain ⟨pv, hpv⟩ : ∃ pv, Hid (prev s (key3 s i) i = pv) := ⟨_, rfl⟩
    rw [hpv.out] at HB hlk
    obtain ⟨G, hG⟩ : ∃ G, Hid (gOf s i = G) := ⟨_, rfl⟩
    have hG' := hG.out
    rw [hG'] at H1 hupd hlk
    clear hG'
    have c0 := H1.cells
    go_upto_region 2 with (refine wpList_store_agg rfl _ _ rfl rfl (H1.alloc _) rfl (by kernel_rfl) (by simp) (by simp; exact ⟨rfl, rfl, rfl⟩) rfl ?_; clear H1 c0; intro w5 H)
    generalize w1.heap.size = kb at *
    refine wp_region_calm (fun w1 => Own w0 w1 (blk kb (.cells #[.int .u8 x0, .int .u8 x1, .int .u8 x2] 49) :: blk g (.cells #[.string s, .map (some b), .slice (some ⟨rb, 0, none⟩) s.size c] 44) :: mpi Try.prog 49 3 k3 b i G :: slc 3 1 (.slice (some ⟨rb, 0, none⟩) s.size c) s.size (nums xs) :: ps)) 12 (by kernel_rfl) (by kernel_rfl) H.drew ?_
    simp only [List.take_succ_cons, List.take_zero, List.drop_succ_cons, List.drop_zero]
    repeat
      first
      | (refine calm_value (v := ?_) (by decide) rfl (fun σ w1 hS => ?_) ?_
         rotate_left
         · have c0 := hS.swap.cells; have c1 := hS.cells
           first | (go_simp; rfl) | rfl
         simp only [Act.put, List.setIfInBounds_toArray, List.set_cons_zero, List.set_cons_succ])
      | (refine calm_skip (by decide) rfl ?_
         simp only [Act.put, List.setIfInBounds_toArray, List.set_cons_zero, List.set_cons_succ])
    refine calm_lookup (b := b) (n := i) (g := G) (w0 := w0) (k := key3 s i) _ _ (by decide) rfl rfl rfl ?_ (fun σ w hS => ⟨_, (hS.front 2 rfl)⟩) k3_law Try.underlying41 Try.underlying3 intZero HK.out ?_
    · exact hk.out.symm
    repeat
      first
      | (refine calm_value (v := ?_) (by decide) rfl (fun σ w1 hS => ?_) ?_
         rotate_left
         · have c0 := hS.swap.cells; have c1 := hS.cells
           first | (go_simp; rfl) | rfl
         simp only [Act.put, List.setIfInBounds_toArray, List.set_cons_zero, List.set_cons_succ])
      | (refine calm_skip (by decide) rfl ?_
         simp only [Act.put, List.setIfInBounds_toArray, List.set_cons_zero, List.set_cons_succ])
    refine calm_nil ?_
    intro wd HD
    clear H
    rw [hlk.out]
    go_upto_region 3 with (refine wpList_store_slc rfl _ _ rfl (j := i) rfl (HD.front 3 rfl) (.int .i64 pv) rfl (by kernel_rfl) (by omega) rfl ?_; clear HD; intro w6 H)
    have hw1 : IntKind.i64.wrap ((i : Int) + 1) = (i : Int) + 1 := IntWalk.i64_in _ ⟨by omega, by omega⟩
    have hset : (nums xs).set i (.int .i64 (pv : Int)) = nums (xs.set i (pv : Int)) := by simp [nums, List.map_set]
    rw [hset] at H
    have H : Own w0 w6 (blk kb (.cells #[.int .u8 x0, .int .u8 x1, .int .u8 x2] 49) :: blk g (.cells #[.string s, .map (some b), .slice (some ⟨rb, 0, none⟩) s.size c] 44) :: mpi Try.prog 49 3 k3 b i G :: slc 3 1 (.slice (some ⟨rb, 0, none⟩) s.size c) s.size (nums (xs.set i (pv : Int))) :: ps) := (((((H.front 3 rfl).front 3 rfl).front 3 rfl)))
    refine wp_region_calm (fun w1 => Own w0 w1 (blk kb (.cells #[.int .u8 x0, .int .u8 x1, .int .u8 x2] 49) :: blk g (.cells #[.string s, .map (some b), .slice (some ⟨rb, 0, none⟩) s.size c] 44) :: mpi Try.prog 49 3 k3 b i G :: slc 3 1 (.slice (some ⟨rb, 0, none⟩) s.size c) s.size (nums (xs.set i (pv : Int))) :: ps)) 7 (by kernel_rfl) (by kernel_rfl) H.drew ?_
    simp only [List.take_succ_cons, List.take_zero, List.drop_succ_cons, List.drop_zero]
    repeat
      first
      | (refine calm_value (v := ?_) (by decide) rfl (fun σ w1 hS => ?_) ?_
         rotate_left
         · have c0 := hS.swap.cells; have c1 := hS.cells
           first | (go_simp; rfl) | rfl
         simp only [Act.put, List.setIfInBounds_toArray, List.set_cons_zero, List.set_cons_succ])
      | (refine calm_skip (by decide) rfl ?_
         simp only [Act.put, List.setIfInBounds_toArray, List.set_cons_zero, List.set_cons_succ])
    refine calm_nil ?_
    intro wd2 HD
    clear H
    refine wpList_update_mpi (K := 49) (E := 3) (enc := k3) rfl _ _ _ rfl (HD.front 2 rfl) k3_law Try.underlying41 Try.underlying3 (by omega) k3_inj rfl (a := key3 s i) hk.out.symm HK.out (c := (i : Int) + 1) rfl (by omega) ?_
    clear HD
    intro w7 H
    rw [← hupd.out] at H
    go_wp2
    go_end0
    exact ⟨_, rfl, fnd_shut (b := b) (v := .slice (some ⟨rb, 0, none⟩) s.size c) HB.out ((((H.front 2 rfl).front 2 rfl).drop))⟩
  · have h3I : ¬ (i : Int) + 3 ≤ (s.size : Int) := by omega
    have HB := Lib.hid (hb.skip h3)
    clear hb
    go_enter Try.func17, Try.ntmps17
    go_wp2
    go_end0
    refine ⟨_, rfl, fnd_shut (b := b) (v := v) HB.out ?_⟩
    rw [gOf_skip h3]
    exact (H.swap.mpi_mono (Nat.le_succ i)).swap
end Go.Proofs.Yteblnmealnmipaa
