/-
  Gates: the walks of the gate's functions.
-/
import Derived.Test.YtnjneeinpmehpaaChan
import Derived.Test.YtnjneeinpmehpaaRow
import Derived.Test.YtnjneeinpmehpaaReg
import Derived.Deep.DeepCutAuto
import Derived.Deep.CutBlock
import Derived.Deep.LoopGhost
import Derived.WalkLawsBesides
import Derived.WalkSpells
import Derived.BigQuiet
import Derived.Deep.QuietTactic
import Derived.Test.YtnjneeinpmehpaaRows
namespace Go.Proofs.Ytnjneeinpmehpaa
open Go.RowKit Go.Conc

/-- A gate: its size, what is in it, whether it is shut. -/
def Gt (g cap : Nat) (q : List ByteArray) (cl : Bool) : Piece := ex fun c : Nat => star (blk g (.cells #[.chan (some c), .bool cl] 41)) (chn c cap (q.map .string) cl)
section
variable {w0 w w' : World} {ps qs : List Piece} {g cap : Nat} {q : List ByteArray} {cl : Bool}
theorem Own.gt (h : Own w0 w (Gt g cap q cl :: ps)) : ∃ c s r, Own w0 w (blk g (.cells #[.chan (some c), .bool cl] 41) :: blk c (.chan cap (q.map Value.string).toArray cl s r false) :: ps) := by
  obtain ⟨c, h⟩ := h.ex
  obtain ⟨s, r, h⟩ := h.star.swap.chn
  exact ⟨c, s, r, h.swap⟩
theorem Own.ungt {c s r : Nat} (h : Own w0 w (blk g (.cells #[.chan (some c), .bool cl] 41) :: blk c (.chan cap (q.map Value.string).toArray cl s r false) :: ps)) : Own w0 w (Gt g cap q cl :: ps) :=
  Own.unex (f := fun c : Nat => Go.Proofs.Ytnjneeinpmehpaa.star (blk g (.cells #[.chan (some c), .bool cl] 41)) (Go.Proofs.Ytnjneeinpmehpaa.chn c cap (q.map .string) cl)) c (h.swap.unchn.swap.unstar)
end

set_option maxHeartbeats 400000 in
theorem put_shut {w0 w : World} {ps : List Piece} {g cap : Nat} {q : List ByteArray} (s : ByteArray) (H : Own w0 w (Gt g cap q true :: ps)) :
    Calls Try.prog 7 #[.pointer (some ⟨g, 0, none⟩), .string s] w (Ret fun v w' => v = .bool false ∧ Own w0 w' (Gt g cap q true :: ps)) := by
  obtain ⟨c, sn, rn, H⟩ := H.gt
  have c0 := H.cells
  go_enter Try.func7, Try.ntmps7
  go_wp2
  go_ret
  exact ⟨_, rfl, rfl, H.ungt⟩

/-- What follows a communication: the gate's block is whole again. -/
theorem Own.gtSet {w0 w : World} {ps : List Piece} {g c cap sn rn s' r' : Nat} {q q' : List ByteArray} {cl cl' : Bool} {buf' : Array Value}
    (H : Own w0 w (blk g (.cells #[.chan (some c), .bool cl] 41) :: blk c (.chan cap (q.map Value.string).toArray cl' sn rn false) :: ps)) (hb : buf' = (q'.map Value.string).toArray) :
    Own w0 (w.setChan c cap buf' cl s' r' false) (Gt g cap q' cl :: ps) := by
  subst hb
  exact (H.swap.setChan (cap' := cap) (buf' := (q'.map Value.string).toArray) (cl' := cl) (s' := s') (r' := r') (tm' := false)).swap.ungt

set_option maxHeartbeats 400000 in
theorem put_room {w0 w : World} {ps : List Piece} {g cap : Nat} {q : List ByteArray} (s : ByteArray) (H : Own w0 w (Gt g cap q false :: ps)) (hq : q.length < cap) :
    Calls Try.prog 7 #[.pointer (some ⟨g, 0, none⟩), .string s] w (Ret fun v w' => v = .bool true ∧ Own w0 w' (Gt g cap (q ++ [s]) false :: ps)) := by
  obtain ⟨c, sn, rn, H⟩ := H.gt
  have c0 := H.cells
  go_enter Try.func7, Try.ntmps7
  go_upto_region 5 with (fail)
  refine wp_region_comm (cases := #[scase c (.string s) (.string ByteArray.empty)]) (blocking := false) (shape := .select) (w1 := w) rfl (by simp [go_sem, execOp, scase, Act.eval]; rfl) (fun fr cs es h => step_lone_select_send_room h H.swap.block.1 (by simpa using hq)) ?_
  have H := H.gtSet (s' := sn + 1) (r' := rn) (q' := q ++ [s]) (buf' := (q.map Value.string).toArray.push (.string s)) (by simp)
  generalize World.setChan w c cap _ _ _ _ _ = w2 at *
  clear c0
  go_wp2
  go_ret
  exact ⟨_, rfl, rfl, H⟩

set_option maxHeartbeats 400000 in
theorem put_full {w0 w : World} {ps : List Piece} {g cap : Nat} {q : List ByteArray} (s : ByteArray) (H : Own w0 w (Gt g cap q false :: ps)) (hq : cap ≤ q.length) :
    Calls Try.prog 7 #[.pointer (some ⟨g, 0, none⟩), .string s] w (Ret fun v w' => v = .bool false ∧ Own w0 w' (Gt g cap q false :: ps)) := by
  obtain ⟨c, sn, rn, H⟩ := H.gt
  have c0 := H.cells
  go_enter Try.func7, Try.ntmps7
  go_upto_region 5 with (fail)
  refine wp_region_comm (cases := #[scase c (.string s) (.string ByteArray.empty)]) (blocking := false) (shape := .select) (w1 := w) rfl (by simp [go_sem, execOp, scase, Act.eval]; rfl) (fun fr cs es h => step_lone_select_send_full h H.swap.block.1 (by simpa using hq)) ?_
  go_wp2
  go_ret
  exact ⟨_, rfl, rfl, H.ungt⟩

theorem put_none (s : ByteArray) (w : World) : Calls Try.prog 7 #[.pointer none, .string s] w fun e w' => e = .returned (.bool false) ∧ w' = w := by
  go_enter Try.func7, Try.ntmps7
  go_wp2
  go_ret
  exact ⟨rfl, rfl⟩

set_option maxHeartbeats 400000 in
theorem get_some {w0 w : World} {ps : List Piece} {g cap : Nat} {q : List ByteArray} {cl : Bool} (s : ByteArray) (H : Own w0 w (Gt g cap (s :: q) cl :: ps)) :
    Calls Try.prog 8 #[.pointer (some ⟨g, 0, none⟩)] w (Ret fun v w' => v = .tuple #[.string s, .bool true] ∧ Own w0 w' (Gt g cap q cl :: ps)) := by
  obtain ⟨c, sn, rn, H⟩ := H.gt
  have c0 := H.cells
  go_enter Try.func8, Try.ntmps8
  go_upto_region 4 with (fail)
  refine wp_region_comm (cases := #[rcase c (.string ByteArray.empty)]) (blocking := false) (shape := .select) (w1 := w) rfl (by simp [go_sem, execOp, rcase, Act.eval]; rfl) (fun fr cs es h => step_lone_select_recv_buf h H.swap.block.1 (by simp)) ?_
  have H := H.gtSet (s' := sn) (r' := rn + 1) (q' := q) (buf' := ((s :: q).map Value.string).toArray.extract 1 ((s :: q).map Value.string).toArray.size) (by simp [List.take_of_length_le])
  generalize World.setChan w c cap _ _ _ _ _ = w2 at *
  clear c0
  rw [show ((s :: q).map Value.string).toArray.getD 0 undef = .string s by simp]
  go_wp2
  go_ret2
  exact ⟨_, rfl, rfl, H⟩

set_option maxHeartbeats 400000 in
theorem get_empty {w0 w : World} {ps : List Piece} {g cap : Nat} {cl : Bool} (H : Own w0 w (Gt g cap [] cl :: ps)) :
    Calls Try.prog 8 #[.pointer (some ⟨g, 0, none⟩)] w (Ret fun v w' => v = .tuple #[.string ByteArray.empty, .bool false] ∧ Own w0 w' (Gt g cap [] cl :: ps)) := by
  obtain ⟨c, sn, rn, H⟩ := H.gt
  have c0 := H.cells
  go_enter Try.func8, Try.ntmps8
  go_upto_region 4 with (fail)
  cases cl with
  | true =>
    refine wp_region_comm (cases := #[rcase c (.string ByteArray.empty)]) (blocking := false) (shape := .select) (w1 := w) rfl (by simp [go_sem, execOp, rcase, Act.eval]; rfl) (fun fr cs es h => step_lone_select_recv_shut h H.swap.block.1) ?_
    go_wp2
    go_ret2
    exact ⟨_, rfl, rfl, H.ungt⟩
  | false =>
    refine wp_region_comm (cases := #[rcase c (.string ByteArray.empty)]) (blocking := false) (shape := .select) (w1 := w) rfl (by simp [go_sem, execOp, rcase, Act.eval]; rfl) (fun fr cs es h => step_lone_select_default h H.swap.block.1) ?_
    go_wp2
    go_ret2
    exact ⟨_, rfl, rfl, H.ungt⟩

theorem get_none (w : World) : Calls Try.prog 8 #[.pointer none] w fun e w' => e = .returned (.tuple #[.string ByteArray.empty, .bool false]) ∧ w' = w := by
  go_enter Try.func8, Try.ntmps8
  go_wp2
  go_ret2
  exact ⟨rfl, rfl⟩

set_option maxHeartbeats 400000 in
theorem shut_any {w0 w : World} {ps : List Piece} {g cap : Nat} {q : List ByteArray} {cl : Bool} (H : Own w0 w (Gt g cap q cl :: ps)) :
    Calls Try.prog 9 #[.pointer (some ⟨g, 0, none⟩)] w (Ret fun _ w' => Own w0 w' (Gt g cap q true :: ps)) := by
  obtain ⟨c, sn, rn, H⟩ := H.gt
  have c0 := H.cells
  go_enter Try.func9, Try.ntmps9
  cases cl with
  | true =>
    go_wp2
    go_end0
    exact ⟨_, rfl, H.ungt⟩
  | false =>
    go_upto_region 2 with (refine wpList_store_bool rfl _ _ rfl rfl H rfl (by kernel_rfl) (by simp) ?_; clear H c0; intro w3 H)
    have c0 := H.cells
    have hcl := fun ats ty => run_close_open (P := Try.prog) (w := w3) ats ty H.swap.block.1
    go_wp2
    go_end0
    refine ⟨_, rfl, ?_⟩
    have H2 := H.gtSet (s' := sn) (r' := rn) (q' := q) (buf' := (q.map Value.string).toArray) rfl
    simpa [World.setChan] using H2

theorem shut_none (w : World) : Calls Try.prog 9 #[.pointer none] w (Ret fun _ w' => w' = w) := by
  go_enter Try.func9, Try.ntmps9
  go_wp2
  go_end0
  exact ⟨_, rfl, rfl⟩

set_option maxHeartbeats 400000 in
theorem len_any {w0 w : World} {ps : List Piece} {g cap : Nat} {q : List ByteArray} {cl : Bool} (H : Own w0 w (Gt g cap q cl :: ps)) :
    Calls Try.prog 12 #[.pointer (some ⟨g, 0, none⟩)] w fun e w' => e = .returned (.int .i64 q.length) ∧ w' = w := by
  obtain ⟨c, sn, rn, H⟩ := H.gt
  have c0 := H.cells
  have hlen := fun ty => run_len_chan (P := Try.prog) 39 ty Try.underlying39 H.swap.block.1
  have hz : (List.map Value.string q).toArray.size = q.length := by simp
  rw [hz] at hlen
  go_enter Try.func12, Try.ntmps12
  go_wp2
  go_ret
  exact ⟨rfl, rfl⟩

theorem len_none (w : World) : Calls Try.prog 12 #[.pointer none] w fun e w' => e = .returned (.int .i64 0) ∧ w' = w := by
  go_enter Try.func12, Try.ntmps12
  go_wp2
  go_ret
  exact ⟨rfl, rfl⟩

/-- How many texts a gate of this size holds. -/
def room (size : Int) : Nat := (min (max size 0) 256).toNat
theorem bytesStr : ∃ i, Try.prog.info? 9 = some i ∧ i.bytes = 16 := by
  have h : (Try.prog.info? 9).map (·.bytes) = some 16 := by kernel_rfl
  obtain ⟨i, hi, hb⟩ := Option.map_eq_some_iff.1 h
  exact ⟨i, hi, hb⟩
theorem mkc (r : Nat) (h : r ≤ 256) (w : World) : (Instr.makeChan 39 (.int .i64 r)).run Try.prog w = .ok (.chan (some w.heap.size)) (w.alloc (.chan r #[] false 0 0 false)) := by
  obtain ⟨i, hi, hb⟩ := bytesStr
  simpa using run_makeChan (P := Try.prog) (w := w) Try.underlying39 hi .i64 r (by omega) (by rw [hb]; omega)
theorem Own.newGt {w0 w : World} {ps : List Piece} (r : Nat) (H : Own w0 w ps) :
    Own w0 ((w.alloc (.chan r #[] false 0 0 false)).alloc (.cells #[.chan (some w.heap.size), .bool false] 41)) (Gt (w.heap.size + 1) r [] false :: ps) := by
  have := H.alloc2 (.chan r #[] false 0 0 false) (.cells #[.chan (some w.heap.size), .bool false] 41)
  exact Own.ungt (q := []) this
set_option maxHeartbeats 400000 in
theorem new_any {w0 w : World} {ps : List Piece} (size : Int) (H : Own w0 w ps) :
    Calls Try.prog 6 #[.int .i64 size] w (Ret fun v w' => ∃ g, v = .pointer (some ⟨g, 0, none⟩) ∧ Own w0 w' (Gt g (room size) [] false :: ps)) := by
  by_cases h0 : size < 0
  · rw [show room size = 0 by unfold room; omega]
    have hmc : ∀ w : World, (Instr.makeChan 39 (.int .i64 0)).run Try.prog w = .ok (.chan (some w.heap.size)) (w.alloc (.chan 0 #[] false 0 0 false)) := mkc 0 (by omega)
    go_enter Try.func6, Try.ntmps6
    go_wp2
    go_ret
    exact ⟨_, rfl, _, rfl, H.newGt 0⟩
  by_cases h1 : 256 < size
  · rw [show room size = 256 by unfold room; omega]
    have hmc : ∀ w : World, (Instr.makeChan 39 (.int .i64 256)).run Try.prog w = .ok (.chan (some w.heap.size)) (w.alloc (.chan 256 #[] false 0 0 false)) := mkc 256 (by omega)
    go_enter Try.func6, Try.ntmps6
    go_wp2
    go_ret
    exact ⟨_, rfl, _, rfl, H.newGt 256⟩
  obtain ⟨r, rfl⟩ : ∃ r : Nat, size = r := ⟨size.toNat, by omega⟩
  rw [show room (r : Int) = r by unfold room; omega]
  have hmc := mkc r (by omega)
  go_enter Try.func6, Try.ntmps6
  go_wp2
  go_ret
  exact ⟨_, rfl, _, rfl, H.newGt r⟩

theorem strInfo : (Try.prog.info? 9).map (fun i => (i.zero, i.size, i.bytes)) = some (some (.string ByteArray.empty), 1, 16) := by kernel_rfl

set_option maxHeartbeats 800000 in
theorem drain_any {w0 w : World} {ps : List Piece} {g cap : Nat} {q : List ByteArray} {cl : Bool} (H : Own w0 w (Gt g cap q cl :: ps)) (hq : q.length ≤ 100000) :
    Calls Try.prog 11 #[.pointer (some ⟨g, 0, none⟩)] w (Ret fun v w' => Own w0 w' (sld 9 1 v q.length (txs q) :: Gt g cap [] true :: ps)) := by
  go_enter Try.func11, Try.ntmps11
  go_wp2_with fail
  refine (shut_any H).mono ?_
  rintro e w1 ⟨_, rfl, H1⟩
  clear H
  obtain ⟨c, sn, rn, H⟩ := H1.gt
  clear H1
  have c0 := H.cells
  go_wp2_with fail
  clear c0
  go_loopw [3] (fun v wr => ∃ (out rest : List ByteArray) (rn : Nat), Hid (q = out ++ rest) ∧ Own w0 wr (sld 9 1 v out.length (txs out) :: blk g (.cells #[.chan (some c), .bool true] 41) :: blk c (.chan cap (rest.map Value.string).toArray true sn rn false) :: ps)) (fun v _ => q.length - sliceLen v)
  case atStart => exact ⟨[], q, rn, Lib.hid rfl, H.dnil _ _⟩
  case round =>
    clear H
    obtain ⟨out, rest, rn, hq2, H⟩ := hrel
    cases rest with
    | nil =>
      go_upto_region 6 with (fail)
      refine wp_region_comm (cases := #[rcase c (.string ByteArray.empty)]) (blocking := true) (shape := .recv true) (w1 := wr) rfl (by simp [go_sem, rcase]; rfl) (fun fr cs es h => step_lone_recv_shut true h (H.front 2 rfl).block.1) ?_
      simp only [got, if_true]
      go_wp2
      go_ret
      have e : Hid (out = q) := Lib.hid (by have := hq2.out; simpa using this.symm)
      rw [e.out] at H
      refine ⟨_, rfl, ?_⟩
      exact (((H.front 2 rfl).front 2 rfl).ungt (q := [])).swap
    | cons s rest =>
      have hl : out.length + (rest.length + 1) = q.length := by have := congrArg List.length hq2.out; simp at this; omega
      go_upto_region 6 with (fail)
      refine wp_region_comm (cases := #[rcase c (.string ByteArray.empty)]) (blocking := true) (shape := .recv true) (w1 := wr) rfl (by simp [go_sem, rcase]; rfl) (fun fr cs es h => step_lone_recv_buf true h (H.front 2 rfl).block.1 (by simp)) ?_
      simp only [got, if_true]
      have H2 := (H.front 2 rfl).setChan (cap' := cap) (buf' := ((s :: rest).map Value.string).toArray.extract 1 ((s :: rest).map Value.string).toArray.size) (cl' := true) (s' := sn) (r' := rn + 1) (tm' := false)
      generalize World.setChan wr c cap _ _ _ _ _ = w2 at *
      rw [show ((s :: rest).map Value.string).toArray.extract 1 ((s :: rest).map Value.string).toArray.size = (rest.map Value.string).toArray by simp [List.take_of_length_le]] at H2
      rw [show ((s :: rest).map Value.string).toArray.getD 0 undef = .string s by simp]
      have H := (H2.front 2 rfl).front 2 rfl
      have hs0 := Lib.hid H.dcount
      clear H2
      go_wp2_with (refine wpList_append_one_sld rfl _ _ rfl Try.underlying25 strInfo rfl (by decide) rfl H (news := [.string s]) rfl rfl rfl (by intro u hu; simp at hu; subst hu; rfl) (by omega) (by omega) ?_; intro v' w4 H4)
      go_roundw
      case rel => exact ⟨out ++ [s], rest, rn + 1, Lib.hid (by rw [hq2.out]; simp), by simpa [txs] using H4⟩
      case measure =>
        have := H4.dcount
        have := hs0.out
        simp only [*]
        omega
set_option maxHeartbeats 400000 in
theorem drain_none (w : World) : Calls Try.prog 11 #[.pointer none] w fun e w' => e = .returned (.slice none 0 0) ∧ w' = w := by
  go_enter Try.func11, Try.ntmps11
  go_wp2
  go_ret
  exact ⟨rfl, rfl⟩
end Go.Proofs.Ytnjneeinpmehpaa
