/-
  Queues of at most so many things: the walks, over texts.
-/
import Derived.Test.YtnbekiggoejogaaRec
import Derived.Test.YtnbekiggoejogaaReg
import Derived.Deep.OwnRows
import Derived.Deep.DeepCutAuto
import Derived.Deep.CutBlock
import Derived.Deep.LoopGhost
import Derived.WalkLawsBesides
import Derived.WalkSpells
import Derived.BigQuiet
import Derived.Deep.QuietTactic
import Derived.Test.YtnbekiggoejogaaRows
namespace Go.Proofs.Ytnbekiggoejogaa
open Go.RowKit

namespace RingStr
def cells (l : List ByteArray) : List Value := l.map .string
theorem cells_get {l : List ByteArray} {k : Nat} {s : ByteArray} (h : l[k]? = some s) : (cells l)[k]? = some (.string s) := by simp [cells, h]
theorem info : (Try.prog.info? 9).map (fun i => (i.zero, i.size, i.bytes)) = some (some (.string ByteArray.empty), 1, 16) := by kernel_rfl
/-- The place of the i-th of a queue's things. -/
def at_ (size frm i : Nat) : Nat := if frm + i < size then frm + i else frm + i - size
/-- The things of a queue, in its row. -/
structure Holds (size frm : Nat) (xs q : List ByteArray) : Prop where
  len : xs.length = size
  le : q.length ≤ size
  fr : frm < size ∨ (frm = 0 ∧ size = 0)
  get : ∀ i s, q[i]? = some s → xs[at_ size frm i]? = some s
/-- A queue: its size, what is in it. -/
def Rg (g size : Nat) (q : List ByteArray) : Piece := ex fun p : Value × Nat × List ByteArray => star (blk g (.cells #[p.1, .int .i64 p.2.1, .int .i64 q.length] 70)) (star (slc 9 1 p.1 size (cells p.2.2)) (fact (Holds size p.2.1 p.2.2 q)))
section
variable {w0 w w' : World} {ps : List Piece} {g size frm : Nat} {q xs : List ByteArray} {v : Value}
theorem rg_open (h : Own w0 w (Rg g size q :: ps)) : ∃ v frm xs, Holds size frm xs q ∧ Own w0 w (blk g (.cells #[v, .int .i64 frm, .int .i64 q.length] 70) :: slc 9 1 v size (cells xs) :: ps) := by
  obtain ⟨⟨v, frm, xs⟩, h⟩ := h.ex
  have h := h.star.swap.star.swap.fact
  exact ⟨v, frm, xs, h.1, h.2.swap⟩
theorem rg_shut (hh : Holds size frm xs q) (h : Own w0 w (blk g (.cells #[v, .int .i64 frm, .int .i64 q.length] 70) :: slc 9 1 v size (cells xs) :: ps)) : Own w0 w (Rg g size q :: ps) :=
  Own.unex (f := fun p : Value × Nat × List ByteArray => Go.Proofs.Ytnbekiggoejogaa.star (blk g (.cells #[p.1, .int .i64 p.2.1, .int .i64 q.length] 70)) (Go.Proofs.Ytnbekiggoejogaa.star (slc 9 1 p.1 size (cells p.2.2)) (Go.Proofs.Ytnbekiggoejogaa.fact (Holds size p.2.1 p.2.2 q)))) (v, frm, xs)
    ((h.swap.unfact hh).swap.unstar.swap.unstar)
end
theorem at_lt {size frm i : Nat} (hf : frm < size) (hi : i < size) : at_ size frm i < size := by unfold at_; split <;> omega
theorem at_mod {size frm i : Nat} (hf : frm < size) (hi : i < size) : (frm + i) % size = at_ size frm i := by
  unfold at_
  split
  · next h => exact Nat.mod_eq_of_lt h
  · next h => rw [Nat.mod_eq_sub_mod (by omega), Nat.mod_eq_of_lt (by omega)]
theorem at_tmod {size frm i : Nat} (hf : frm < size) (hi : i < size) : ((frm : Int) + (i : Int)).tmod (size : Int) = (at_ size frm i : Int) := by
  rw [← at_mod hf hi, Int.tmod_eq_emod_of_nonneg (by omega), Int.natCast_emod, Int.natCast_add]
theorem Holds.push {size frm : Nat} {xs q : List ByteArray} (h : Holds size frm xs q) (hq : q.length < size) (x : ByteArray) : Holds size frm (xs.set (at_ size frm q.length) x) (q ++ [x]) := by
  obtain ⟨h1, h2, h3, h4⟩ := h
  have hf : frm < size := by omega
  refine ⟨by simpa using h1, by simp; omega, .inl hf, fun i s hi => ?_⟩
  have hl := at_lt hf hq
  by_cases hiq : i < q.length
  · rw [List.getElem?_append_left hiq] at hi
    have hne : at_ size frm q.length ≠ at_ size frm i := by unfold at_; split <;> split <;> omega
    rw [List.getElem?_set, if_neg hne]
    exact h4 i s hi
  · have : i = q.length := by have := (List.getElem?_eq_some_iff.1 hi).1; simp at this; omega
    subst this
    simp at hi
    subst hi
    rw [List.getElem?_set, if_pos rfl, if_pos (by omega)]
theorem Holds.pop {size frm : Nat} {xs q : List ByteArray} {y : ByteArray} (h : Holds size frm xs (y :: q)) (z : ByteArray) : Holds size (at_ size frm 1) (xs.set frm z) q := by
  obtain ⟨h1, h2, h3, h4⟩ := h
  simp only [List.length_cons] at h2
  have hf : frm < size := by omega
  refine ⟨by simpa using h1, by omega, ?_, fun i s hi => ?_⟩
  · by_cases hs : 1 < size
    · exact .inl (at_lt hf hs)
    · unfold at_; split <;> omega
  · have := h4 (i + 1) s (by simpa using hi)
    have hil := (List.getElem?_eq_some_iff.1 hi).1
    have e : at_ size (at_ size frm 1) i = at_ size frm (i + 1) := by unfold at_; split <;> split <;> split <;> omega
    rw [e]
    have hne : frm ≠ at_ size frm (i + 1) := by unfold at_; split <;> omega
    rw [List.getElem?_set, if_neg hne]
    exact this

set_option maxHeartbeats 400000 in
theorem new_any {w0 w : World} {ps : List Piece} (size : Int) (H : Own w0 w ps) :
    Calls Try.prog 20 #[.int .i64 size] w (Ret fun v w' => ∃ g, v = .pointer (some ⟨g, 0, none⟩) ∧ Own w0 w' (Rg g (min (max size 0) 65536).toNat [] :: ps)) := by
  have hnew : ∀ n : Nat, n ≤ 65536 → Own w0 ((w.alloc (.cells (madeCells #[.string ByteArray.empty] n) 9)).alloc (.cells #[.slice (some ⟨w.heap.size, 0, none⟩) n n, .int .i64 0, .int .i64 0] 70)) (Rg (w.heap.size + 1) n [] :: ps) := by
    intro n hn
    have h1 := H.alloc2 (.cells (madeCells #[.string ByteArray.empty] n) 9) (.cells #[.slice (some ⟨w.heap.size, 0, none⟩) n n, .int .i64 0, .int .i64 0] 70)
    have h2 := h1.swap.slc_mk (xs := cells (List.replicate n ByteArray.empty)) (n := n) (size := 1) (by simp [cells]) (Nat.le_refl _) (by simp [maxLen]; omega) (by simp [size_madeCells]) (by rw [toList_madeCells_one]; simp [cells])
    refine rg_shut (frm := 0) (q := []) ⟨by simp, by simp, ?_, fun i s hi => by simp at hi⟩ h2.swap
    omega
  have HN := Lib.hid hnew
  clear hnew
  by_cases h0 : size < 0
  · rw [show (min (max size 0) 65536).toNat = 0 by omega]
    have hmk : ∀ w : World, (Instr.makeSlice 50 (.int .i64 0) (.int .i64 0)).run Try.prog w = .ok (.slice (some ⟨w.heap.size, 0, none⟩) 0 0) (w.alloc (.cells (madeCells #[.string ByteArray.empty] 0) 9)) := run_make_row' _ _ _ 16 Try.underlying50 info rfl .i64 .i64 0 (by omega) (by omega)
    go_enter Try.func20, Try.ntmps20
    go_wp2
    go_ret
    exact ⟨_, rfl, _, rfl, HN.out 0 (by omega)⟩
  by_cases h1 : 65536 < size
  · rw [show (min (max size 0) 65536).toNat = 65536 by omega]
    have hmk : ∀ w : World, (Instr.makeSlice 50 (.int .i64 65536) (.int .i64 65536)).run Try.prog w = .ok (.slice (some ⟨w.heap.size, 0, none⟩) 65536 65536) (w.alloc (.cells (madeCells #[.string ByteArray.empty] 65536) 9)) := run_make_row' _ _ _ 16 Try.underlying50 info rfl .i64 .i64 65536 (by omega) (by omega)
    go_enter Try.func20, Try.ntmps20
    go_wp2
    go_ret
    exact ⟨_, rfl, _, rfl, HN.out 65536 (by omega)⟩
  obtain ⟨r, rfl⟩ : ∃ r : Nat, size = r := ⟨size.toNat, by omega⟩
  rw [show (min (max (r : Int) 0) 65536).toNat = r by omega]
  have hmk : ∀ w : World, (Instr.makeSlice 50 (.int .i64 r) (.int .i64 r)).run Try.prog w = .ok (.slice (some ⟨w.heap.size, 0, none⟩) r r) (w.alloc (.cells (madeCells #[.string ByteArray.empty] r) 9)) := run_make_row' _ _ _ 16 Try.underlying50 info rfl .i64 .i64 r (by omega) (by omega)
  go_enter Try.func20, Try.ntmps20
  go_wp2
  go_ret
  exact ⟨_, rfl, _, rfl, HN.out r (by omega)⟩

set_option maxHeartbeats 800000 in
theorem push_full {w0 w : World} {ps : List Piece} {g size : Nat} {q : List ByteArray} (x : ByteArray) (H : Own w0 w (Rg g size q :: ps)) (hq : q.length = size) :
    Calls Try.prog 21 #[.pointer (some ⟨g, 0, none⟩), .string x] w (Ret fun v w' => v = .bool false ∧ Own w0 w' (Rg g size q :: ps)) := by
  obtain ⟨v, frm, xs, hh, H⟩ := rg_open H
  obtain ⟨a, c, rfl, hc1, hc2⟩ := H.swap.rd.shape
  have HH := Lib.hid hh
  have hq2 := Lib.hid hq
  clear hh hq
  obtain ⟨n, hn⟩ : ∃ n, Hid (q.length = n) := ⟨_, rfl⟩
  rw [hn.out] at H
  obtain rfl : n = size := by rw [← hn.out, hq2.out]
  go_enter Try.func21, Try.ntmps21
  go_upto_region 1 with (fail)
  refine wp_region_calm (fun w1 => Own w0 w1 (blk g (.cells #[.slice a n c, .int .i64 frm, .int .i64 n] 70) :: slc 9 1 (.slice a n c) n (cells xs) :: ps)) 14 (by kernel_rfl) (by kernel_rfl) H.drew ?_
  simp only [List.take_succ_cons, List.take_zero, List.drop_succ_cons, List.drop_zero]
  repeat
    first
    | (refine calm_value (v := ?_) (by decide) rfl (fun σ w1 hS => ?_) ?_
       rotate_left
       · have c0 := hS.cells
         first | (go_simp; rfl) | rfl
       simp only [Act.put, List.setIfInBounds_toArray, List.set_cons_zero, List.set_cons_succ])
    | (refine calm_skip (by decide) rfl ?_
       simp only [Act.put, List.setIfInBounds_toArray, List.set_cons_zero, List.set_cons_succ])
  refine calm_nil ?_
  intro wd HD
  clear H
  go_wp2
  go_ret
  exact ⟨_, rfl, rfl, HD |> fun h => by rw [← hn.out] at h; rw [← hn.out]; exact rg_shut (by rw [hn.out]; exact HH.out) h⟩

set_option maxHeartbeats 1600000 in
theorem push_room {w0 w : World} {ps : List Piece} {g size : Nat} {q : List ByteArray} (x : ByteArray) (H : Own w0 w (Rg g size q :: ps)) (hq : q.length < size) (hs : size ≤ 1000000) :
    Calls Try.prog 21 #[.pointer (some ⟨g, 0, none⟩), .string x] w (Ret fun v w' => v = .bool true ∧ Own w0 w' (Rg g size (q ++ [x]) :: ps)) := by
  obtain ⟨v, frm, xs, hh, H⟩ := rg_open H
  obtain ⟨b, c, rfl, hc1, hc2, _⟩ := H.swap.at (by rw [cells, List.length_map, hh.len]; omega)
  have hf : frm < size := by have := hh.fr; omega
  obtain ⟨p, hp⟩ : ∃ p, Hid (at_ size frm q.length = p) := ⟨_, rfl⟩
  have hps : p < size := by rw [← hp.out]; exact at_lt hf hq
  have htm := at_tmod hf hq
  have hpush := Lib.hid (hh.push hq x)
  rw [hp.out] at htm hpush
  clear hh
  obtain ⟨n, hn⟩ : ∃ n, Hid (q.length = n) := ⟨_, rfl⟩
  rw [hn.out] at H hq htm
  have hne : ((n : Int) == (size : Int)) = false := by simp; omega
  have hsz : ((size : Int) == 0) = false := by simp; omega
  have hsz3 : ¬ (size = 0) := by omega
  have hw1 : IntKind.i64.wrap ((frm : Int) + (n : Int)) = (frm : Int) + (n : Int) := IntWalk.i64_in _ ⟨by omega, by omega⟩
  have hw2 : IntKind.i64.wrap (p : Int) = (p : Int) := IntWalk.i64_in _ ⟨by omega, by omega⟩
  have hpI : (p : Int) < (size : Int) := by omega
  go_enter Try.func21, Try.ntmps21
  go_upto_region 1 with (fail)
  refine wp_region_calm (fun w1 => Own w0 w1 (blk g (.cells #[.slice (some ⟨b, 0, none⟩) size c, .int .i64 frm, .int .i64 n] 70) :: slc 9 1 (.slice (some ⟨b, 0, none⟩) size c) size (cells xs) :: ps)) 14 (by kernel_rfl) (by kernel_rfl) H.drew ?_
  simp only [List.take_succ_cons, List.take_zero, List.drop_succ_cons, List.drop_zero]
  repeat
    first
    | (refine calm_value (v := ?_) (by decide) rfl (fun σ w1 hS => ?_) ?_
       rotate_left
       · have c0 := hS.cells
         first | (go_simp; rfl) | rfl
       simp only [Act.put, List.setIfInBounds_toArray, List.set_cons_zero, List.set_cons_succ])
    | (refine calm_skip (by decide) rfl ?_
       simp only [Act.put, List.setIfInBounds_toArray, List.set_cons_zero, List.set_cons_succ])
  refine calm_nil ?_
  intro wd HD
  clear H
  go_upto_region 3 with (fail)
  refine wp_region_calm (fun w1 => Own w0 w1 (blk g (.cells #[.slice (some ⟨b, 0, none⟩) size c, .int .i64 frm, .int .i64 n] 70) :: slc 9 1 (.slice (some ⟨b, 0, none⟩) size c) size (cells xs) :: ps)) 20 (by kernel_rfl) (by kernel_rfl) HD.drew ?_
  simp only [List.take_succ_cons, List.take_zero, List.drop_succ_cons, List.drop_zero]
  repeat
    first
    | (refine calm_value (v := ?_) (by decide) rfl (fun σ w1 hS => ?_) ?_
       rotate_left
       · have c0 := hS.cells
         first | (go_simp; rfl) | rfl
       simp only [Act.put, List.setIfInBounds_toArray, List.set_cons_zero, List.set_cons_succ])
    | (refine calm_skip (by decide) rfl ?_
       simp only [Act.put, List.setIfInBounds_toArray, List.set_cons_zero, List.set_cons_succ])
  refine calm_nil ?_
  intro wd2 H
  clear HD
  go_wp2_with (first
    | (refine wpList_store_slc rfl _ _ rfl (j := p) rfl H.swap (.string x) rfl (by kernel_rfl) (by omega) rfl ?_; clear H; intro w5 H; replace H := H.swap; have c0 := H.cells)
    | (refine wpList_store_int rfl _ _ rfl rfl H rfl (by kernel_rfl) (by simp) ?_; clear H c0; intro w6 H))
  go_ret
  refine ⟨_, rfl, rfl, rg_shut (v := .slice (some ⟨b, 0, none⟩) size c) hpush.out ?_⟩
  rw [List.length_append, hn.out]
  simpa [cells, List.map_set] using H

theorem rlen_any {w0 w : World} {ps : List Piece} {g size : Nat} {q : List ByteArray} (H : Own w0 w (Rg g size q :: ps)) :
    Calls Try.prog 23 #[.pointer (some ⟨g, 0, none⟩)] w fun e w' => e = .returned (.int .i64 q.length) ∧ w' = w := by
  obtain ⟨v, frm, xs, hh, H⟩ := rg_open H
  clear hh
  have c0 := H.cells
  go_enter Try.func23, Try.ntmps23
  go_wp2
  go_ret
  exact ⟨rfl, rfl⟩

set_option maxHeartbeats 800000 in
theorem at_no {w0 w : World} {ps : List Piece} {g size : Nat} {q : List ByteArray} (i : Int) (H : Own w0 w (Rg g size q :: ps)) (hi : i < 0 ∨ (q.length : Int) ≤ i) :
    Calls Try.prog 28 #[.pointer (some ⟨g, 0, none⟩), .int .i64 i] w (Ret fun v w' => v = .tuple #[.string ByteArray.empty, .bool false] ∧ Own w0 w' (Rg g size q :: ps)) := by
  have H0 := H
  obtain ⟨v, frm, xs, hh, H⟩ := rg_open H
  clear hh
  have c0 := H.cells
  go_enter Try.func28, Try.ntmps28
  by_cases h1 : i < 0
  · clear hi
    go_wp2
    go_ret2
    exact ⟨_, rfl, rfl, H0⟩
  · have h2 : (q.length : Int) ≤ i := by omega
    have h3 : 0 ≤ i := by omega
    clear hi
    go_wp2
    go_ret2
    exact ⟨_, rfl, rfl, H0⟩

set_option maxHeartbeats 1600000 in
theorem at_yes {w0 w : World} {ps : List Piece} {g size : Nat} {q : List ByteArray} {i : Nat} {s : ByteArray} (H : Own w0 w (Rg g size q :: ps)) (hi : q[i]? = some s) (hs : size ≤ 1000000) :
    Calls Try.prog 28 #[.pointer (some ⟨g, 0, none⟩), .int .i64 i] w (Ret fun v w' => v = .tuple #[.string s, .bool true] ∧ Own w0 w' (Rg g size q :: ps)) := by
  obtain ⟨v, frm, xs, hh, H⟩ := rg_open H
  have hil := (List.getElem?_eq_some_iff.1 hi).1
  have hle := hh.le
  obtain ⟨b, c, rfl, hc1, hc2, _⟩ := H.swap.at (by rw [cells, List.length_map, hh.len]; omega)
  have hf : frm < size := by have := hh.fr; omega
  obtain ⟨p, hp⟩ : ∃ p, Hid (at_ size frm i = p) := ⟨_, rfl⟩
  have hps : p < size := by rw [← hp.out]; exact at_lt hf (by omega)
  have htm := at_tmod hf (show i < size by omega)
  have hg := hh.get i s hi
  rw [hp.out] at htm hg
  have HG := Lib.hid (cells_get hg)
  have HH := Lib.hid hh
  clear hh hi hg
  obtain ⟨n, hn⟩ : ∃ n, Hid (q.length = n) := ⟨_, rfl⟩
  rw [hn.out] at H hil hle
  have hilI : (i : Int) < (n : Int) := by omega
  have hi0 : (0 : Int) ≤ (i : Int) := by omega
  have hsz : ((size : Int) == 0) = false := by simp; omega
  have hsz3 : ¬ (size = 0) := by omega
  have hw1 : IntKind.i64.wrap ((frm : Int) + (i : Int)) = (frm : Int) + (i : Int) := IntWalk.i64_in _ ⟨by omega, by omega⟩
  have hw2 : IntKind.i64.wrap (p : Int) = (p : Int) := IntWalk.i64_in _ ⟨by omega, by omega⟩
  have hpI : (p : Int) < (size : Int) := by omega
  have c0 := H.cells
  go_enter Try.func28, Try.ntmps28
  go_upto_region 4 with (fail)
  clear c0
  refine wp_region_calm (fun w1 => Own w0 w1 (blk g (.cells #[.slice (some ⟨b, 0, none⟩) size c, .int .i64 frm, .int .i64 n] 70) :: slc 9 1 (.slice (some ⟨b, 0, none⟩) size c) size (cells xs) :: ps)) 18 (by kernel_rfl) (by kernel_rfl) H.drew ?_
  simp only [List.take_succ_cons, List.take_zero, List.drop_succ_cons, List.drop_zero]
  repeat
    first
    | (refine calm_value (v := ?_) (by decide) rfl (fun σ w1 hS => ?_) ?_
       rotate_left
       · have c0 := hS.cells; have c1 := hS.swap.rd.cell HG.out; rw [Nat.zero_add] at c1
         first | (go_simp; rfl) | rfl
       simp only [Act.put, List.setIfInBounds_toArray, List.set_cons_zero, List.set_cons_succ])
    | (refine calm_skip (by decide) rfl ?_
       simp only [Act.put, List.setIfInBounds_toArray, List.set_cons_zero, List.set_cons_succ])
  refine calm_nil ?_
  intro wd HD
  clear H
  go_wp2
  go_ret2
  refine ⟨_, rfl, rfl, rg_shut (v := .slice (some ⟨b, 0, none⟩) size c) HH.out ?_⟩
  rw [hn.out]
  exact HD

theorem pop_none {w0 w : World} {ps : List Piece} {g size : Nat} (H : Own w0 w (Rg g size [] :: ps)) :
    Calls Try.prog 22 #[.pointer (some ⟨g, 0, none⟩)] w (Ret fun v w' => v = .tuple #[.string ByteArray.empty, .bool false] ∧ Own w0 w' (Rg g size [] :: ps)) := by
  go_enter Try.func22, Try.ntmps22
  go_wp2_with fail
  refine (at_no 0 H (by simp)).mono ?_
  rintro e w1 ⟨_, rfl, rfl, H1⟩
  go_wp2
  go_ret2
  exact ⟨_, rfl, rfl, H1⟩

set_option maxHeartbeats 1600000 in
theorem pop_some {w0 w : World} {ps : List Piece} {g size : Nat} {q : List ByteArray} {y : ByteArray} (H : Own w0 w (Rg g size (y :: q) :: ps)) (hs : size ≤ 1000000) :
    Calls Try.prog 22 #[.pointer (some ⟨g, 0, none⟩)] w (Ret fun v w' => v = .tuple #[.string y, .bool true] ∧ Own w0 w' (Rg g size q :: ps)) := by
  go_enter Try.func22, Try.ntmps22
  go_wp2_with fail
  refine (at_yes (i := 0) H rfl hs).mono ?_
  rintro e w1 ⟨_, rfl, rfl, H1⟩
  clear H
  obtain ⟨v, frm, xs, hh, H⟩ := rg_open H1
  clear H1
  have hle := hh.le
  simp only [List.length_cons] at hle H
  obtain ⟨b, c, rfl, hc1, hc2, _⟩ := H.swap.at (by rw [cells, List.length_map, hh.len]; omega)
  have hf : frm < size := by have := hh.fr; omega
  have hpop := Lib.hid (hh.pop ByteArray.empty)
  obtain ⟨p, hp⟩ : ∃ p, Hid (at_ size frm 1 = p) := ⟨_, rfl⟩
  rw [hp.out] at hpop
  have htm : ((frm : Int) + 1).tmod (size : Int) = (p : Int) := by
    rw [← hp.out]
    by_cases h1 : 1 < size
    · exact at_tmod hf h1
    · obtain rfl : size = 1 := by omega
      obtain rfl : frm = 0 := by omega
      rfl
  have hps : p < size := by rw [← hp.out]; unfold at_; split <;> omega
  clear hh
  obtain ⟨n, hn⟩ : ∃ n, Hid (q.length = n) := ⟨_, rfl⟩
  rw [hn.out] at H hle
  have hsz : ((size : Int) == 0) = false := by simp; omega
  have hsz3 : ¬ (size = 0) := by omega
  have hw1 : IntKind.i64.wrap ((frm : Int) + 1) = (frm : Int) + 1 := IntWalk.i64_in _ ⟨by omega, by omega⟩
  have hw2 : IntKind.i64.wrap (p : Int) = (p : Int) := IntWalk.i64_in _ ⟨by omega, by omega⟩
  have hfI : (frm : Int) < (size : Int) := by omega
  obtain ⟨m, hm⟩ : ∃ m : Int, ((n + 1 : Nat) : Int) = m := ⟨_, rfl⟩
  rw [hm] at H
  have hm1 : m - 1 = (n : Int) := by omega
  clear hm
  go_upto_region 4 with (fail)
  refine wp_region_calm (fun w1 => Own w0 w1 (blk g (.cells #[.slice (some ⟨b, 0, none⟩) size c, .int .i64 frm, .int .i64 m] 70) :: slc 9 1 (.slice (some ⟨b, 0, none⟩) size c) size (cells xs) :: ps)) 9 (by kernel_rfl) (by kernel_rfl) H.drew ?_
  simp only [List.take_succ_cons, List.take_zero, List.drop_succ_cons, List.drop_zero]
  repeat
    first
    | (refine calm_value (v := ?_) (by decide) rfl (fun σ w1 hS => ?_) ?_
       rotate_left
       · have c0 := hS.cells
         first | (go_simp; rfl) | rfl
       simp only [Act.put, List.setIfInBounds_toArray, List.set_cons_zero, List.set_cons_succ])
    | (refine calm_skip (by decide) rfl ?_
       simp only [Act.put, List.setIfInBounds_toArray, List.set_cons_zero, List.set_cons_succ])
  refine calm_nil ?_
  intro wd HD
  clear H
  go_upto_region 5 with (refine wpList_store_slc rfl _ _ rfl (j := frm) rfl HD.swap (.string ByteArray.empty) rfl (by kernel_rfl) (by omega) rfl ?_; clear HD; intro w5 HD; replace HD := HD.swap)
  refine wp_region_calm (fun w1 => Own w0 w1 (blk g (.cells #[.slice (some ⟨b, 0, none⟩) size c, .int .i64 frm, .int .i64 m] 70) :: slc 9 1 (.slice (some ⟨b, 0, none⟩) size c) size ((cells xs).set frm (.string ByteArray.empty)) :: ps)) 12 (by kernel_rfl) (by kernel_rfl) HD.drew ?_
  simp only [List.take_succ_cons, List.take_zero, List.drop_succ_cons, List.drop_zero]
  repeat
    first
    | (refine calm_value (v := ?_) (by decide) rfl (fun σ w1 hS => ?_) ?_
       rotate_left
       · have c0 := hS.cells
         first | (go_simp; rfl) | rfl
       simp only [Act.put, List.setIfInBounds_toArray, List.set_cons_zero, List.set_cons_succ])
    | (refine calm_skip (by decide) rfl ?_
       simp only [Act.put, List.setIfInBounds_toArray, List.set_cons_zero, List.set_cons_succ])
  refine calm_nil ?_
  intro wd2 H
  clear HD
  go_upto_region 6 with (refine wpList_store_int rfl _ _ rfl rfl H rfl (by kernel_rfl) (by simp) ?_; clear H; intro w6 H)
  have c0 := H.cells
  go_upto_region 7 with (refine wpList_store_int rfl _ _ rfl rfl H rfl (by kernel_rfl) (by simp) ?_; clear H c0; intro w7 H)
  go_wp2
  go_ret2
  refine ⟨_, rfl, rfl, rg_shut (v := .slice (some ⟨b, 0, none⟩) size c) hpop.out ?_⟩
  rw [hn.out]
  simpa [cells, List.map_set] using H
end RingStr
end Go.Proofs.Ytnbekiggoejogaa
