/-
  net: fates, what a network holds, its plain law; the map's keys, two ints. No program in sight but the types' numbers.
-/
import Derived.Test.YtnpflnplpipipaaDuePQ
import Derived.Test.YtnpflnplpipipaaEntry
import Derived.ProofKit
import Derived.DeepKeys4
namespace Go.Proofs.Ytnpflnplpipipaa
open Go.RowKit Go.Maps Go.ChangeShapes Go.WideShapes

structure Fa where
  drop : Bool
  delay : Int
  copies : Int
deriving DecidableEq
def fcell (f : Fa) : List Value := [.bool f.drop, .int .i64 f.delay, .int .i64 f.copies]
def fval (f : Fa) : Value := .agg #[.bool f.drop, .int .i64 f.delay, .int .i64 f.copies]
theorem fcell_length (f : Fa) : (fcell f).length = 3 := rfl
theorem fcell_one (f : Fa) : ∀ u ∈ fcell f, u.oneCell' = true := by intro u hu; simp [fcell] at hu; rcases hu with rfl | rfl | rfl <;> rfl
theorem fateInfo : (Try.prog.info? 30).map (fun i => (i.zero, i.size, i.bytes)) = some (some (fval ⟨false, 0, 0⟩), 3, 24) := by kernel_rfl

/-- Two ints, as a key. -/
def k2 (k : Int × Int) : Value := .agg #[.int .i64 k.1, .int .i64 k.2]
theorem k2_inj (a b : Int × Int) (h : k2 a = k2 b) : a = b := by
  obtain ⟨a0, a1⟩ := a
  obtain ⟨b0, b1⟩ := b
  simp only [k2, Value.agg.injEq, Array.mk.injEq, List.cons.injEq, Value.int.injEq, true_and, and_true] at h
  rw [h.1, h.2]
theorem k2_laidOut : laidOutB Try.prog = true := by kernel_rfl
theorem k2_row : (56 : TypeId) < Try.prog.types.size := of_decide_eq_true (by kernel_rfl)
theorem k2_deep : Try.prog.keyTypeAt (Try.prog.types.size + 1) 56 = true := by kernel_rfl
theorem k2_wide : (match Try.prog.underlying 56 with | some (.array _ _) | some (.struct _) => true | _ => false) = true := by rw [Try.underlying56]
theorem k2_klaw : WideMaps.KeyLaw Try.prog 56 := deep_law_laid k2_laidOut (m := 2) (by omega) k2_row (by kernel_rfl) k2_wide
theorem k2_law : Keyed Try.prog 56 := Keyed.of_law k2_klaw
def In64 (x : Int) : Prop := -9223372036854775808 ≤ x ∧ x ≤ 9223372036854775807
theorem k2_key (k : Int × Int) (h1 : In64 k.1) (h2 : In64 k.2) : ∃ kl, keyOf Try.prog 56 (k2 k) = some kl := by
  have hc : Try.prog.cellsOf 56 = 2 := by kernel_rfl
  have hc1 : Try.prog.cellsOf 3 = 1 := by kernel_rfl
  have hf : (k2 k).formed Try.prog 56 = true := by simp [k2, Value.formed, Try.underlying56, hc]
  have w0 : (Lit.int .i64 k.1).wf = true := WalkArith.wf_i64 h1
  have w1 : (Lit.int .i64 k.2).wf = true := WalkArith.wf_i64 h2
  have ht : DataW.Trod (H := Unit) (fun _ => ()) Try.prog (default : World) 0 (fun _ => true) true 56 (k2 k) (.agg [.lit (.int .i64 k.1), .lit (.int .i64 k.2)]) [] := by
    refine ⟨2, ?_⟩
    simp [DataW.trod, k2, Value.cells, Try.underlying56, Try.underlying3, hc, hc1, w0, w1, List.range, List.range.loop]
  exact ⟨_, (keyOf_asKey k2_deep k2_wide hf ht).1⟩

/-- A number between two. -/
def clipI (n lo hi : Int) : Int := if n < lo then lo else if hi < n then hi else n
theorem clipI_bounds {n lo hi : Int} (h : lo ≤ hi) : lo ≤ clipI n lo hi ∧ clipI n lo hi ≤ hi := by unfold clipI; split <;> (try split) <;> omega
/-- The next fate, as it is taken. -/
def fateOf : List Fa → Fa
  | [] => ⟨false, 0, 0⟩
  | f :: _ => ⟨f.drop, clipI f.delay 0 64, clipI f.copies 0 3⟩
def FOk (f : Fa) : Prop := 0 ≤ f.delay ∧ f.delay ≤ 64 ∧ 0 ≤ f.copies ∧ f.copies ≤ 3
theorem fateOf_ok (F : List Fa) : FOk (fateOf F) := by
  cases F with
  | nil => exact ⟨by decide, by decide, by decide, by decide⟩
  | cons f F =>
    have h1 := clipI_bounds (n := f.delay) (lo := 0) (hi := 64) (by omega)
    have h2 := clipI_bounds (n := f.copies) (lo := 0) (hi := 3) (by omega)
    exact ⟨h1.1, h1.2, h2.1, h2.2⟩
/-- A fate, bounded: n of its class did not come in time. -/
def boundF (K D n : Int) (f : Fa) : Fa := if K = 0 then f else if K - 1 ≤ n then ⟨false, clipI f.delay 0 D, f.copies⟩ else f
theorem boundF_ok {K D n : Int} {f : Fa} (h : FOk f) (hD : 0 ≤ D) (hD2 : D ≤ 64) : FOk (boundF K D n f) := by
  unfold boundF
  split
  · exact h
  · split
    · have := clipI_bounds (n := f.delay) (lo := 0) (hi := D) hD
      exact ⟨this.1, by simp only; omega, h.2.2.1, h.2.2.2⟩
    · exact h
def isLate (D : Int) (f : Fa) : Prop := f.drop = true ∨ D < f.delay
instance (D : Int) (f : Fa) : Decidable (isLate D f) := by unfold isLate; infer_instance
/-- How many of each class did not come in time, behind one more. -/
def lateF (K D : Int) (c : Int × Int) (f : Fa) (late : Int × Int → Int) : Int × Int → Int :=
  if K = 0 then late else fun x => if x = c then (if isLate D f then late c + 1 else 0) else late x
/-- What a packet of that fate is under way. -/
def itemsOf (now dst : Int) (s : ByteArray) (k : Nat) (f : Fa) : List (It (Int × ByteArray)) :=
  if f.drop then [] else (List.range (f.copies.toNat + 1)).map fun (i : Nat) => ⟨now + 1 + f.delay + (i : Int), (k : Int) + (i : Int), (dst, s)⟩
theorem itemsOf_length (now dst : Int) (s : ByteArray) (k : Nat) (f : Fa) (h : FOk f) : (itemsOf now dst s k f).length ≤ 4 := by
  obtain ⟨_, _, _, h4⟩ := h
  unfold itemsOf
  split
  · simp
  · simp; omega

/-- A network: its bound, fates, late ones, what is under way; how many were put; at most c classes were told of. -/
def NetP (g : Nat) (K D : Int) (F : List Fa) (late : Int × Int → Int) (c : Nat) (M : List (It (Int × ByteArray))) (k : Nat) : Piece :=
  ex fun x : Value × Nat => star (DueP.Dq (.int .i64 K) (.int .i64 D) x.1 (.map (some x.2)) g M k) (star (sld 30 3 x.1 F.length (rows fcell F)) (mpi Try.prog 56 3 k2 x.2 c late))
section
variable {w0 w : World} {ps : List Piece} {g : Nat} {K D : Int} {F : List Fa} {late : Int × Int → Int} {c : Nat} {M : List (It (Int × ByteArray))} {k : Nat}
theorem net_open (h : Own w0 w (NetP g K D F late c M k :: ps)) : ∃ v b, Own w0 w (DueP.Dq (.int .i64 K) (.int .i64 D) v (.map (some b)) g M k :: sld 30 3 v F.length (rows fcell F) :: mpi Try.prog 56 3 k2 b c late :: ps) := by
  obtain ⟨⟨v, b⟩, h⟩ := h.ex
  exact ⟨v, b, ((h.star.front 1 rfl).star.front 2 rfl)⟩
theorem net_shut {v : Value} {b : Nat} (h : Own w0 w (DueP.Dq (.int .i64 K) (.int .i64 D) v (.map (some b)) g M k :: sld 30 3 v F.length (rows fcell F) :: mpi Try.prog 56 3 k2 b c late :: ps)) : Own w0 w (NetP g K D F late c M k :: ps) := by
  refine Own.unex (f := fun x : Value × Nat => Go.Proofs.Ytnpflnplpipipaa.star (DueP.Dq (.int .i64 K) (.int .i64 D) x.1 (.map (some x.2)) g M k) (Go.Proofs.Ytnpflnplpipipaa.star (sld 30 3 x.1 F.length (rows fcell F)) (mpi Try.prog 56 3 k2 x.2 c late))) (v, b) (Own.unstar ?_)
  have h1 := ((h.front 1 rfl).front 2 rfl).swap.unstar
  exact h1.swap
/-- The struct's own cells. -/
theorem dq_blk {qA qB qC qE : Value} (h : Own w0 w (DueP.Dq qA qB qC qE g M k :: ps)) : ∃ m v, Heap m ∧ m.Perm M ∧ Own w0 w (blk g (.cells #[qA, qB, qC, qE, v, .int .i64 k] 54) :: slc 73 4 v m.length (rows DueP.icell m) :: ps) := by
  obtain ⟨m, h1, h2, h⟩ := DueP.dq_open h
  obtain ⟨v, h⟩ := h.ex
  exact ⟨m, v, h1, h2, h.star⟩
theorem dq_unblk {qA qB qC qE v : Value} {m : List (It (Int × ByteArray))} (h1 : Heap m) (h2 : m.Perm M) (h : Own w0 w (blk g (.cells #[qA, qB, qC, qE, v, .int .i64 k] 54) :: slc 73 4 v m.length (rows DueP.icell m) :: ps)) : Own w0 w (DueP.Dq qA qB qC qE g M k :: ps) :=
  DueP.dq_shut h1 h2 (Own.unex (f := fun v : Value => Go.Proofs.Ytnpflnplpipipaa.star (blk g (.cells #[qA, qB, qC, qE, v, .int .i64 k] 54)) (slc 73 4 v m.length (rows DueP.icell m))) v (Own.unstar h))
end
end Go.Proofs.Ytnpflnplpipipaa
