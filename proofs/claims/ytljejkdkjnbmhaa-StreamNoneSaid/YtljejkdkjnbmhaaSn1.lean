/-
  Texts of this claim, one behind the other: Memory that a call owns, piece by piece; append, make, slice literals on slices that the call itself owns ('Own', 'slc'); slices that are only read ('Rd'). No program in sight; What comes in, read; Stores into blocks and slices of the call's own, in a walk; Slices of the call's own that begin anywhere in their row (what 'xs = xs[1:]' leaves); Rows that are read, cell by cell; texts. No program in sight; A store to a cell of a slice of the call's own, its elements of any width. No program in sight; Rows of structs; What comes in; Stable sorts, plainly; A region that draws its order, all of whose operations but the last few yield values that are known, and keep a condition S on the world ('calm'); Calm regions over what a call owns; The stable sort of slices of coins; huff; huff; huff; huff; huff; append of a string's bytes to a slice of the call's own; bytes made a string. No program in sight; Bits; huff; Laws on int's bit operations. No program in sight; Laws on int's bit operations, more. No program in sight; huff; huff; flate; lz; lz; lz; inflate; What an int, a byte, a string are to the program; Bits; Bits; bits, a reader; lz; flate; flate; inflate.
-/
import Derived.WalkKit
import Derived.Lib.Hide
import Derived.Deep.Draws
import Derived.ProofKit
import Derived.Deep.Slices
import Derived.SizedLaws
import Derived.Lib.SmallJoins
import Derived.Test.YtljejkdkjnbmhaaRows
import Derived.Orders
import Derived.Tactics
import Derived.KernelRfl
import Derived.StillTactics
import Derived.Carry
import Derived.Deep.DeepCutAuto
import Derived.Deep.CutBlock
import Derived.Deep.LoopGhost
import Derived.WalkLawsBesides
import Derived.WalkSpells
import Derived.BigQuiet
import Derived.Deep.QuietTactic
import Derived.Lib.AppendStr
import Derived.Deep.AppendSrc
import Derived.Laws.BytesArg
set_option linter.unusedVariables false
/- Memory that a call owns, piece by piece: 'Own w0 w ps': the world w is w0 with new blocks, and the pieces ps lie in disjoint blocks of its own. Laws on allocs, stores, appends. No program in sight. -/
namespace Go.Proofs.Ytljejkdkjnbmhaa
open Go.RowKit

abbrev Heaplet := List (Nat × Obj)
abbrev Piece := Heaplet → Prop

def Holds (B : Nat) (w : World) : List Piece → List Nat → Prop
  | [], _ => True
  | p :: ps, u => ∃ h : Heaplet, p h ∧ (h.map (·.1)).Nodup ∧ (∀ x ∈ h, x.1 ∉ u ∧ B ≤ x.1 ∧ w.heap[x.1]? = some x.2) ∧ Holds B w ps (h.map (·.1) ++ u)

theorem front_perm {α : Type _} : ∀ (l : List α) (i : Nat) (a : α), l[i]? = some a → l.Perm (a :: l.eraseIdx i)
  | [], _, _, h => by simp at h
  | x :: l, 0, a, h => by simp at h; subst h; exact List.Perm.refl _
  | x :: l, i + 1, a, h => ((front_perm l i a (by simpa using h)).cons x).trans (List.Perm.swap _ _ _)

structure Own (w0 w : World) (ps : List Piece) : Prop where
  below : Below w0.heap.size w0 w
  holds : Holds w0.heap.size w ps []

theorem Holds.anti {B : Nat} {w : World} {ps : List Piece} : ∀ {u u' : List Nat}, Holds B w ps u → (∀ x, x ∈ u' → x ∈ u) → Holds B w ps u' := by
  induction ps with
  | nil => intro _ _ _ _; trivial
  | cons p ps ih =>
    intro u u' ⟨h, hp, hn, hx, hr⟩ hu
    refine ⟨h, hp, hn, fun x hxm => ⟨fun hm => (hx x hxm).1 (hu _ hm), (hx x hxm).2⟩, ih hr ?_⟩
    intro x hxm
    rcases List.mem_append.1 hxm with h1 | h1
    · exact List.mem_append.2 (.inl h1)
    · exact List.mem_append.2 (.inr (hu _ h1))

theorem Holds.perm {B : Nat} {w : World} {ps qs : List Piece} (hp : ps.Perm qs) : ∀ {u : List Nat}, Holds B w ps u → Holds B w qs u := by
  induction hp with
  | nil => intro _ h; exact h
  | cons p _ ih => intro u ⟨h, h1, h2, h3, h4⟩; exact ⟨h, h1, h2, h3, ih h4⟩
  | swap p q ps =>
    intro u ⟨h, h1, h2, h3, g, g1, g2, g3, g4⟩
    refine ⟨g, g1, g2, fun x hx => ⟨fun hm => (g3 x hx).1 (List.mem_append.2 (.inr hm)), (g3 x hx).2⟩, h, h1, h2, fun x hx => ⟨fun hm => ?_, (h3 x hx).2⟩, ?_⟩
    · rcases List.mem_append.1 hm with hm | hm
      · obtain ⟨y, hy, hye⟩ := List.mem_map.1 hm
        exact (g3 y hy).1 (List.mem_append.2 (.inl (by rw [hye]; exact List.mem_map.2 ⟨x, hx, rfl⟩)))
      · exact (h3 x hx).1 hm
    · refine Holds.anti g4 ?_
      intro x hx
      simp only [List.mem_append] at hx ⊢
      rcases hx with h | h | h
      · exact .inr (.inl h)
      · exact .inl h
      · exact .inr (.inr h)
  | trans _ _ ih1 ih2 => intro u h; exact ih2 (ih1 h)

/-- Worlds that agree on the blocks in use. -/
theorem Holds.carry {B : Nat} {w w' : World} {ps : List Piece} : ∀ {u : List Nat}, Holds B w ps u → (∀ k, B ≤ k → k ∉ u → k < w.heap.size → w'.heap[k]? = w.heap[k]?) → Holds B w' ps u := by
  induction ps with
  | nil => intro _ _ _; trivial
  | cons p ps ih =>
    intro u ⟨h, h1, h2, h3, h4⟩ hk
    refine ⟨h, h1, h2, fun x hx => ⟨(h3 x hx).1, (h3 x hx).2.1, ?_⟩, ih h4 fun k hB hku hlt => hk k hB (fun hm => hku (List.mem_append.2 (.inr hm))) hlt⟩
    rw [hk x.1 (h3 x hx).2.1 (h3 x hx).1 (Array.getElem?_eq_some_iff.1 (h3 x hx).2.2).1]
    exact (h3 x hx).2.2

theorem Holds.use {B : Nat} {w : World} {ps : List Piece} : ∀ {u u' : List Nat}, Holds B w ps u → (∀ k, k ∈ u' → k ∈ u ∨ w.heap.size ≤ k) → Holds B w ps u' := by
  induction ps with
  | nil => intro _ _ _ _; trivial
  | cons p ps ih =>
    intro u u' ⟨h, h1, h2, h3, h4⟩ hk
    refine ⟨h, h1, h2, fun x hx => ⟨fun hm => ?_, (h3 x hx).2⟩, ih h4 fun k hm => ?_⟩
    · rcases hk _ hm with h | h
      · exact (h3 x hx).1 h
      · have := (Array.getElem?_eq_some_iff.1 (h3 x hx).2.2).1; omega
    · rcases List.mem_append.1 hm with hm | hm
      · exact .inl (List.mem_append.2 (.inl hm))
      · rcases hk _ hm with h | h
        · exact .inl (List.mem_append.2 (.inr h))
        · exact .inr h

section
variable {w0 w w' : World} {p q : Piece} {ps qs : List Piece}

theorem Own.start (w : World) : Own w w [] := ⟨Below.refl _ _, trivial⟩
theorem Own.perm (h : Own w0 w ps) (hp : ps.Perm qs) : Own w0 w qs := ⟨h.below, h.holds.perm hp⟩
theorem Own.drop (h : Own w0 w (p :: ps)) : Own w0 w ps := by
  obtain ⟨hb, g, _, _, _, hr⟩ := h
  exact ⟨hb, hr.anti (by simp)⟩
theorem Own.swap (h : Own w0 w (p :: q :: ps)) : Own w0 w (q :: p :: ps) := h.perm (List.Perm.swap q p ps)
theorem Own.imp (h : Own w0 w (p :: ps)) (hpq : ∀ x, p x → q x) : Own w0 w (q :: ps) := by
  obtain ⟨hb, g, h1, h2⟩ := h
  exact ⟨hb, g, hpq _ h1, h2⟩
theorem Own.front (i : Nat) (h : Own w0 w ps) (hi : ps[i]? = some p) : Own w0 w (p :: ps.eraseIdx i) := h.perm (front_perm ps i p hi)
theorem Own.size (h : Own w0 w ps) : w0.heap.size ≤ w.heap.size := h.below.size
theorem Own.oldCell (h : Own w0 w ps) {a : Addr} (hk : a.block < w0.heap.size) : w.cell? a = w0.cell? a := h.below.cell hk
theorem Own.drew (h : Own w0 w ps) : Own w0 w.drew ps := ⟨h.below.drew, h.holds.carry fun _ _ _ _ => rfl⟩
/-- What a callee owns of its own, called on a world where we own ps. -/
theorem Own.join (h : Own w0 w ps) (g : Own w w' qs) : Own w0 w' (qs ++ ps) := by
  refine ⟨h.below.trans (g.below.mono h.size), ?_⟩
  have key : ∀ (qs : List Piece) (u : List Nat), (∀ k, k ∈ u → w.heap.size ≤ k) → Holds w.heap.size w' qs u → Holds w0.heap.size w' (qs ++ ps) u := by
    intro qs
    induction qs with
    | nil =>
      intro u hu _
      refine Holds.carry (w := w) ?_ (fun k _ _ hlt => g.below.block k hlt)
      exact h.holds.use (fun k hk => .inr (hu k hk))
    | cons q qs ih =>
      intro u hu ⟨x, h1, h2, h3, h4⟩
      refine ⟨x, h1, h2, fun y hy => ⟨(h3 y hy).1, Nat.le_trans h.size (h3 y hy).2.1, (h3 y hy).2.2⟩, ih _ ?_ h4⟩
      intro k hk
      rcases List.mem_append.1 hk with hk | hk
      · obtain ⟨y, hy, rfl⟩ := List.mem_map.1 hk
        exact (h3 y hy).2.1
      · exact hu k hk
  exact key qs [] (by simp) g.holds
end

/-! ### pieces -/
def blk (b : Nat) (o : Obj) : Piece := fun h => h = [(b, o)]
def star (p q : Piece) : Piece := fun h => ∃ a b, h = a ++ b ∧ p a ∧ q b
def ex {α : Type} (f : α → Piece) : Piece := fun h => ∃ a, f a h
def fact (φ : Prop) : Piece := fun h => h = [] ∧ φ
/-- A slice that begins at the head of a row of its own: n elements of 'size' cells, the cells xs; or nil. -/
def slc (e : TypeId) (size : Nat) (v : Value) (n : Nat) (xs : List Value) : Piece := fun h =>
  xs.length = n * size ∧ ((v = .slice none 0 0 ∧ n = 0 ∧ h = []) ∨
    ∃ g cap cur, v = .slice (some ⟨g, 0, none⟩) n cap ∧ h = [(g, .cells cur e (0, 0))] ∧ n ≤ cap ∧ cap ≤ maxLen ∧ cur.size = cap * size ∧ cur.toList.take (n * size) = xs)

section
variable {w0 w w' : World} {p q : Piece} {ps qs : List Piece}

theorem Own.star (h : Own w0 w (star p q :: ps)) : Own w0 w (p :: q :: ps) := by
  obtain ⟨hb, x, ⟨a, b, rfl, ha, hq⟩, hn, hx, hr⟩ := h
  rw [List.map_append, List.nodup_append] at hn
  refine ⟨hb, a, ha, hn.1, fun y hy => hx y (List.mem_append.2 (.inl hy)), b, hq, hn.2.1, fun y hy => ⟨fun hm => ?_, (hx y (List.mem_append.2 (.inr hy))).2⟩, ?_⟩
  · have hm : y.1 ∈ a.map (·.1) := by simpa using hm
    exact hn.2.2 y.1 hm y.1 (List.mem_map.2 ⟨y, hy, rfl⟩) rfl
  · refine hr.anti ?_
    intro k hk
    simp only [List.map_append, List.mem_append] at hk ⊢
    rcases hk with h | h | h
    · exact .inl (.inr h)
    · exact .inl (.inl h)
    · exact .inr h
theorem Own.unstar (h : Own w0 w (p :: q :: ps)) : Own w0 w (Go.Proofs.Ytljejkdkjnbmhaa.star p q :: ps) := by
  obtain ⟨hb, a, ha, hn, hx, b, hq, hn2, hx2, hr⟩ := h
  refine ⟨hb, a ++ b, ⟨a, b, rfl, ha, hq⟩, ?_, fun y hy => ?_, ?_⟩
  · rw [List.map_append, List.nodup_append]
    refine ⟨hn, hn2, fun k hk k' hk' e => ?_⟩
    subst e
    obtain ⟨y, hy, rfl⟩ := List.mem_map.1 hk'
    exact (hx2 y hy).1 (by simpa using hk)
  · rcases List.mem_append.1 hy with hy | hy
    · exact hx y hy
    · exact ⟨by simp, (hx2 y hy).2⟩
  · refine hr.anti ?_
    intro k hk
    simp only [List.map_append, List.mem_append] at hk ⊢
    rcases hk with (h | h) | h
    · exact .inr (.inl h)
    · exact .inl h
    · exact .inr (.inr h)
theorem Own.ex {α : Type} {f : α → Piece} (h : Own w0 w (ex f :: ps)) : ∃ a, Own w0 w (f a :: ps) := by
  obtain ⟨hb, x, ⟨a, ha⟩, r⟩ := h
  exact ⟨a, hb, x, ha, r⟩
theorem Own.unex {α : Type} {f : α → Piece} (a : α) (h : Own w0 w (f a :: ps)) : Own w0 w (Go.Proofs.Ytljejkdkjnbmhaa.ex f :: ps) :=
  h.imp fun _ hx => ⟨a, hx⟩
theorem Own.fact {φ : Prop} (h : Own w0 w (fact φ :: ps)) : φ ∧ Own w0 w ps := by
  have := h.drop
  obtain ⟨hb, x, ⟨_, hφ⟩, _⟩ := h
  exact ⟨hφ, this⟩
theorem Own.unfact {φ : Prop} (hφ : φ) (h : Own w0 w ps) : Own w0 w (Go.Proofs.Ytljejkdkjnbmhaa.fact φ :: ps) :=
  ⟨h.below, [], ⟨rfl, hφ⟩, by simp, by simp, by simpa using h.holds⟩

/-- A new block. -/
theorem Own.alloc (h : Own w0 w ps) (o : Obj) : Own w0 (w.alloc o) (blk w.heap.size o :: ps) := by
  refine ⟨h.below.alloc h.size o, [(w.heap.size, o)], rfl, by simp, ?_, ?_⟩
  · intro x hx
    simp only [List.mem_singleton] at hx
    subst hx
    exact ⟨by simp, h.size, heap_alloc_new w o⟩
  · refine (h.holds.use (u' := [w.heap.size]) ?_).carry fun k _ _ hlt => Below.heap_alloc w o k hlt
    intro k hk
    simp only [List.mem_singleton] at hk
    exact .inr (by omega)
/-- A new block that nobody keeps. -/
theorem Own.alloc' (h : Own w0 w ps) (o : Obj) : Own w0 (w.alloc o) ps := (h.alloc o).drop

/-- Two new blocks. -/
theorem Own.alloc2 (h : Own w0 w ps) (o o' : Obj) : Own w0 ((w.alloc o).alloc o') (blk (w.heap.size + 1) o' :: blk w.heap.size o :: ps) := by
  have := (h.alloc o).alloc o'
  simpa using this

theorem Own.block {b : Nat} {o : Obj} (h : Own w0 w (blk b o :: ps)) : w.heap[b]? = some o ∧ w0.heap.size ≤ b := by
  obtain ⟨_, x, rfl, _, hx, _⟩ := h
  have := hx (b, o) (by simp)
  exact ⟨this.2.2, this.2.1⟩
theorem cell_of_block {b : Nat} {cur : Array Value} {e : TypeId} {fr : Nat × Nat} (h : w.heap[b]? = some (.cells cur e fr)) (i : Nat) : w.cell? ⟨b, i, none⟩ = cur[i]? := by
  simp [World.cell?, h]
theorem frozen_of_block {b : Nat} {cur : Array Value} {e : TypeId} (h : w.heap[b]? = some (.cells cur e (0, 0))) (i : Nat) : w.frozen? ⟨b, i, none⟩ = false := by
  simp [World.frozen?, h]
theorem Own.cell {b : Nat} {cur : Array Value} {e : TypeId} {fr : Nat × Nat} (h : Own w0 w (blk b (.cells cur e fr) :: ps)) (i : Nat) : w.cell? ⟨b, i, none⟩ = cur[i]? :=
  cell_of_block h.block.1 i
theorem Own.cells {b : Nat} {cur : Array Value} {e : TypeId} {fr : Nat × Nat} (h : Own w0 w (blk b (.cells cur e fr) :: ps)) : ∀ i, w.cell? ⟨b, i, none⟩ = cur[i]? := h.cell
theorem Own.free {b : Nat} {cur : Array Value} {e : TypeId} (h : Own w0 w (blk b (.cells cur e) :: ps)) (i : Nat) : w.frozen? ⟨b, i, none⟩ = false :=
  frozen_of_block h.block.1 i

/-- Whatever turns just the block of the first piece (which is one block), and lays new ones. -/
theorem Own.turn {b : Nat} {o o' : Obj} (h : Own w0 w (blk b o :: ps)) (hos : w'.os = w.os) (htape : w'.tape = w.tape) (hout : w'.output = w.output) (hsize : w.heap.size ≤ w'.heap.size)
    (hb : w'.heap[b]? = some o') (hk : ∀ k, k < w.heap.size → k ≠ b → w'.heap[k]? = w.heap[k]?) : Own w0 w' (blk b o' :: ps) := by
  have hB := h.block.2
  obtain ⟨hbel, x, rfl, hn, hx, hr⟩ := h
  refine ⟨hbel.trans ⟨hos, htape, hout, hsize, fun k hlt => hk k (by have := hbel.size; omega) (by omega)⟩, [(b, o')], rfl, by simp, ?_, ?_⟩
  · intro y hy
    simp only [List.mem_singleton] at hy
    subst hy
    exact ⟨by simp, hB, hb⟩
  · refine Holds.carry (w := w) hr ?_
    intro k _ hnk hlt
    exact hk k hlt (fun e => hnk (by simp [e]))

theorem Own.bare (h : Own w0 w ps) : Own w0 w [] := ⟨h.below, trivial⟩

/-! ### slices -/
variable {e : TypeId} {size n : Nat} {v : Value} {xs : List Value}

theorem Own.nil (h : Own w0 w ps) (e : TypeId) (size : Nat) : Own w0 w (slc e size (.slice none 0 0) 0 [] :: ps) :=
  ⟨h.below, [], ⟨by simp, .inl ⟨rfl, rfl, rfl⟩⟩, by simp, by simp, by simpa using h.holds⟩
/-- nil, or a block. -/
theorem Own.slc_cases (h : Own w0 w (slc e size v n xs :: ps)) :
    (v = .slice none 0 0 ∧ n = 0 ∧ xs = [] ∧ Own w0 w ps) ∨
    ∃ g cap cur, v = .slice (some ⟨g, 0, none⟩) n cap ∧ xs.length = n * size ∧ n ≤ cap ∧ cap ≤ maxLen ∧ cur.size = cap * size ∧ cur.toList.take (n * size) = xs ∧ Own w0 w (blk g (.cells cur e) :: ps) := by
  have hd := h.drop
  obtain ⟨hb, x, ⟨hl, hx⟩, r⟩ := h
  rcases hx with ⟨rfl, rfl, rfl⟩ | ⟨g, cap, cur, rfl, rfl, h1, h2, h3, h4⟩
  · exact .inl ⟨rfl, rfl, List.eq_nil_of_length_eq_zero (by simpa using hl), hd⟩
  · exact .inr ⟨g, cap, cur, rfl, hl, h1, h2, h3, h4, hb, _, rfl, r⟩
theorem Own.slc_mk {g cap : Nat} {cur : Array Value} (h : Own w0 w (blk g (.cells cur e) :: ps)) (hl : xs.length = n * size) (h1 : n ≤ cap) (h2 : cap ≤ maxLen) (h3 : cur.size = cap * size) (h4 : cur.toList.take (n * size) = xs) :
    Own w0 w (slc e size (.slice (some ⟨g, 0, none⟩) n cap) n xs :: ps) := by
  obtain ⟨hb, x, rfl, r⟩ := h
  exact ⟨hb, _, ⟨hl, .inr ⟨g, cap, cur, rfl, rfl, h1, h2, h3, h4⟩⟩, r⟩
theorem Own.slc_len (h : Own w0 w (slc e size v n xs :: ps)) : xs.length = n * size := by
  obtain ⟨hb, x, ⟨hl, _⟩, _⟩ := h
  exact hl
/-- A made row: a slice of n elements. -/
theorem Own.made (h : Own w0 w ps) (cur : List Value) (e : TypeId) (size n : Nat) (hl : cur.length = n * size) (hm : n ≤ maxLen) :
    Own w0 (w.alloc (.cells cur.toArray e)) (slc e size (.slice (some ⟨w.heap.size, 0, none⟩) n n) n cur :: ps) :=
  (h.alloc (.cells cur.toArray e)).slc_mk hl (Nat.le_refl _) hm (by simpa using hl) (by simp [← hl])
end

end Go.Proofs.Ytljejkdkjnbmhaa
/- append, make, slice literals on slices that the call itself owns ('Own', 'slc'); slices that are only read ('Rd'). No program in sight. -/
namespace Go.Proofs.Ytljejkdkjnbmhaa
open Go.RowKit

/-- A slice that reads as n elements of 'size' cells each, the cells xs. -/
def Rd (w : World) (size : Nat) (v : Value) (n : Nat) (xs : List Value) : Prop :=
  xs.length = n * size ∧ ∃ a c, v = .slice a n c ∧ n ≤ c ∧ c ≤ maxLen ∧ (a = none → n = 0 ∧ c = 0) ∧ ∀ ad, a = some ad → ∀ j u, xs[j]? = some u → w.cell? (ad.add j) = some u

section
variable {w0 w w' : World} {p q : Piece} {ps qs : List Piece} {e : TypeId} {size n : Nat} {v : Value} {xs : List Value}

theorem Rd.nil (w : World) (size : Nat) : Rd w size (.slice none 0 0) 0 [] := ⟨by simp, none, 0, rfl, Nat.le_refl _, by simp [maxLen], fun _ => ⟨rfl, rfl⟩, by simp⟩
theorem Own.rd (h : Own w0 w (slc e size v n xs :: ps)) : Rd w size v n xs := by
  rcases h.slc_cases with ⟨rfl, rfl, rfl, _⟩ | ⟨g, cap, cur, rfl, hl, h1, h2, h3, h4, h5⟩
  · exact Rd.nil w size
  · refine ⟨hl, _, _, rfl, h1, h2, by simp, ?_⟩
    intro ad had j u hu
    obtain rfl := Option.some.inj had
    rw [Addr.add_lit, Nat.zero_add, h5.cell, ← Array.getElem?_toList]
    rw [← h4, List.getElem?_take] at hu
    split at hu
    · exact hu
    · cases hu
/-- What was there before is read as it was. -/
theorem Rd.keep (h : Rd w size v n xs) (hw : ∀ ad : Addr, (w.cell? ad).isSome → w'.cell? ad = w.cell? ad) : Rd w' size v n xs := by
  obtain ⟨hl, a, c, rfl, h1, h2, h3, h4⟩ := h
  refine ⟨hl, a, c, rfl, h1, h2, h3, fun ad had j u hu => ?_⟩
  have := h4 ad had j u hu
  rw [hw _ (by simp [this])]
  exact this
theorem cell_lt {ad : Addr} (h : (w.cell? ad).isSome) : ad.block < w.heap.size := by
  obtain ⟨u, hu⟩ := Option.isSome_iff_exists.1 h
  exact World.block_lt_of_cell? w ad hu
theorem Rd.below (h : Rd w size v n xs) (hb : Below w.heap.size w w') : Rd w' size v n xs := h.keep fun _ had => hb.cell (cell_lt had)
theorem Rd.old (h : Rd w0 size v n xs) (hb : Own w0 w ps) : Rd w size v n xs := h.below hb.below
theorem Rd.len (h : Rd w size v n xs) : xs.length = n * size := h.1
theorem Rd.shape (h : Rd w size v n xs) : ∃ a c, v = .slice a n c ∧ n ≤ c ∧ c ≤ 9223372036854775807 := by
  obtain ⟨_, a, c, rfl, h1, h2, _⟩ := h
  exact ⟨a, c, rfl, h1, by simpa [maxLen] using h2⟩
/-- The place of a slice that has elements. -/
theorem Rd.at (h : Rd w size v n xs) (hn : 0 < xs.length) : ∃ b o c, v = .slice (some ⟨b, o, none⟩) n c ∧ n ≤ c ∧ c ≤ 9223372036854775807 ∧ ∀ j u, xs[j]? = some u → w.cell? ⟨b, o + j, none⟩ = some u := by
  obtain ⟨hl, a, c, rfl, h1, h2, h3, h4⟩ := h
  cases a with
  | none =>
    obtain ⟨rfl, _⟩ := h3 rfl
    rw [hl, Nat.zero_mul] at hn
    exact absurd hn (by omega)
  | some ad =>
    have h0 := h4 ad rfl 0 _ (List.getElem?_eq_getElem hn)
    have hs : ad.spot = none := by simpa [Addr.add] using World.cell?_spot h0
    obtain ⟨b, o, s⟩ := ad
    simp only at hs
    subst hs
    refine ⟨b, o, c, rfl, h1, by simpa [maxLen] using h2, fun j u hu => ?_⟩
    rw [← Addr.add_lit]
    exact h4 _ rfl j u hu

/-- The block of a slice that we own and that has elements. -/
theorem Own.at (h : Own w0 w (slc e size v n xs :: ps)) (hn : 0 < xs.length) : ∃ g c, v = .slice (some ⟨g, 0, none⟩) n c ∧ n ≤ c ∧ c ≤ 9223372036854775807 ∧ w0.heap.size ≤ g ∧ g < w.heap.size ∧ (∀ j u, xs[j]? = some u → w.cell? ⟨g, j, none⟩ = some u) ∧ ∀ j, w.frozen? ⟨g, j, none⟩ = false := by
  rcases h.slc_cases with ⟨rfl, rfl, rfl, _⟩ | ⟨g, cap, cur, rfl, hl, h1, h2, h3, h4, h5⟩
  · simp at hn
  · refine ⟨g, cap, rfl, h1, by simpa [maxLen] using h2, h5.block.2, (Array.getElem?_eq_some_iff.1 h5.block.1).1, fun j u hu => ?_, fun j => h5.free j⟩
    rw [h5.cell, ← Array.getElem?_toList]
    rw [← h4, List.getElem?_take] at hu
    split at hu
    · exact hu
    · cases hu

variable {P : Program} {t ty : TypeId} {i : TypeInfo} {z : Value} {bytes : Nat}

/-- The source of an append: a slice's cells. -/
theorem run_append_sep (H : Own w0 w (slc e size v n xs :: ps))
    (ht : P.underlying t = some (.slice e)) (hi : P.info? e = some i) (hz : i.zero = some z) (hsize : i.size = size) (hby : i.bytes = bytes) (hzs : z.cells.size = size) (hsz : 0 < size)
    {x : Value} {m : Nat} {news : List Value} (hx : Rd w size x m news) (h1 : ∀ u ∈ news, u.oneCell' = true)
    (h63 : n + m ≤ maxLen) (hbytes : (n + m) * bytes ≤ 140737488355328) :
    ∃ v' w', (Builtin.append_ #[t, t] ty #[v, x]).run P w = .ok v' w' ∧ Own w0 w' (slc e size v' (n + m) (xs ++ news) :: ps) := by
  subst hsize
  subst hby
  obtain ⟨hl, ao, c, rfl, _, _, hnone, hcell⟩ := hx
  have hsmall : n + m ≤ 9223372036854775807 := by simpa [maxLen] using h63
  have hnl := H.slc_len
  have hlen : (xs ++ news).length = (n + m) * i.size := by rw [List.length_append, hnl, hl, Nat.add_mul]
  cases ao with
  | none =>
    obtain ⟨rfl, rfl⟩ := hnone rfl
    have hn0 : news = [] := List.eq_nil_of_length_eq_zero (by simpa using hl)
    subst hn0
    refine ⟨v, w, ?_, by simpa using H⟩
    rcases H.slc_cases with ⟨rfl, rfl, rfl, h5⟩ | ⟨g, cap, cur, rfl, _, hc1, hc2, hc3, hc4, h5⟩
    · simp [Builtin.append_, run_underlying ht, sizeOf, typeInfo, hi, Builtin.lenOf, Builtin.firstCells]
    · simp [Builtin.append_, run_underlying ht, sizeOf, typeInfo, hi, Builtin.lenOf, Builtin.firstCells, hc1, storeCells]
  | some a =>
  have hnews := hcell a rfl
  have grown : ∀ (qs : List Piece), Own w0 w qs → ∀ (old : Nat), old < n + m →
      Own w0 (w.drew.alloc (.cells (xs.toArray ++ news.toArray ++ Builtin.zeroCells z.cells (grownCap w (n + m) old e - (n + m))) e))
        (slc e i.size (.slice (some ⟨w.heap.size, 0, none⟩) (n + m) (grownCap w (n + m) old e)) (n + m) (xs ++ news) :: qs) := by
    intro qs hqs old ho
    have hge := grownCap_ge w (n + m) old e
    have hcm : grownCap w (n + m) old e ≤ maxLen := grownCap_le_maxLen w (n + m) old e h63
    refine (hqs.drew.alloc _).slc_mk hlen hge hcm ?_ ?_
    · simp only [Array.size_append, List.size_toArray, size_zeroCells, hzs, hnl, hl, ← Nat.add_mul]
      congr 1
      omega
    · simp only [Array.toList_append, List.append_assoc]
      rw [← List.append_assoc, ← hlen]
      exact List.take_left
  rcases H.slc_cases with ⟨rfl, rfl, rfl, h5⟩ | ⟨g, cap, cur, rfl, _, hc1, hc2, hc3, hc4, h5⟩
  · by_cases hm : m = 0
    · subst hm
      have hn : news = [] := List.eq_nil_of_length_eq_zero (by simpa using hl)
      subst hn
      refine ⟨.slice none 0 0, w, ?_, by simpa using H⟩
      simp [Builtin.append_, run_underlying ht, sizeOf, typeInfo, hi, Builtin.lenOf, Builtin.firstCells, loadCells, loadCellsFrom]
    · have hr := run_append_nil (P := P) w t ty e i z ht hi hz a m c news hl hnews (by omega) (by omega) (by have hb := hbytes; simp only [Nat.zero_add] at hb; omega)
      have hgr := grown _ h5 0 (by omega)
      simp only [Nat.zero_add, List.nil_append, Array.empty_append] at hgr ⊢
      exact ⟨_, _, hr, hgr⟩
  · by_cases hroom : n + m ≤ cap
    · have hfit : n * i.size + news.length ≤ cur.size := by rw [hl, hc3, ← Nat.add_mul]; exact Nat.mul_le_mul_right _ hroom
      have hr := run_append_room (P := P) w t ty e i ht hi g n cap cur h5.block.1 a m c news hl hnews h1 hroom hfit
      refine ⟨_, _, hr, ?_⟩
      have hset : Own w0 (w.setRow g (cur.toList.take (n * i.size) ++ news ++ cur.toList.drop (n * i.size + news.length)).toArray) (blk g (.cells (cur.toList.take (n * i.size) ++ news ++ cur.toList.drop (n * i.size + news.length)).toArray e) :: ps) :=
        h5.turn rfl rfl rfl (by simp [World.setRow]) (setRow_heap w g cur _ e _ h5.block.1) (fun k _ hk => setRow_other w g k _ hk)
      refine hset.slc_mk hlen hroom hc2 ?_ ?_
      · simp only [List.size_toArray, List.length_append, List.length_take, List.length_drop, Array.length_toList]
        omega
      · rw [hc4, ← hlen]
        exact List.take_left
    · have holds : ∀ j u, xs[j]? = some u → w.cell? ((⟨g, 0, none⟩ : Addr).add j) = some u := by
        obtain ⟨_, _, _, hv, _, _, _, hcl⟩ := H.rd
        cases hv
        exact hcl _ rfl
      have hr := run_append_grow (P := P) w t ty e i z ht hi hz ⟨g, 0, none⟩ n cap xs hnl holds a m c news hl hnews (by omega) (by omega) (growslice_fits (by omega) hbytes)
      exact ⟨_, _, hr, grown _ h5.drop cap (by omega)⟩

/-- 'out = append(out, ..)' in a walk, out the call's own. -/
theorem wpList_append_sep {ops : Array Oper} {rest : List Oper} {o : Oper} {a : Act} {Q : Exit → Act → World → Prop} (hgd : o.guard = none) (s x : Operand)
    (ho : o.op = .call { callee := .builtin .append, args := #[s, x], argTypes := #[t, t] })
    (ht : P.underlying t = some (.slice e)) (hinfo : (P.info? e).map (fun i => (i.zero, i.size, i.bytes)) = some (some z, size, bytes)) (hzs : z.cells.size = size) (hsz : 0 < size)
    (hs : a.eval s = v) (H : Own w0 w (slc e size v n xs :: ps))
    {m : Nat} {news : List Value} (hx : Rd w size (a.eval x) m news) (h1 : ∀ u ∈ news, u.oneCell' = true)
    (h63 : n + m ≤ 9223372036854775807) (hbytes : (n + m) * bytes ≤ 140737488355328)
    (h : ∀ v' w', Own w0 w' (slc e size v' (n + m) (xs ++ news) :: ps) → wpList P ops Q rest (a.put o.dst v') w') : wpList P ops Q (o :: rest) a w := by
  obtain ⟨i, hi, hz, hsize, hby⟩ := info_parts hinfo
  refine wpList_plain hgd fun K hK => ?_
  obtain ⟨v', w', hr, h2⟩ := run_append_sep (P := P) (ty := o.type) H ht hi hz hsize hby hzs hsz hx h1 (by simpa [maxLen] using h63) hbytes
  unfold Oper.wp execOp
  simp only [ho, resolve, invoke, builtin, Sem.run_bind, Sem.run_pure, Result.andThen_ok, List.map_toArray, List.map_cons, List.map_nil, hs, hr]
  exact hK _ _ (h v' w' h2)

/-- 'out = append(out, x)', the one new element in a fresh block (so the walk lays it). -/
theorem wpList_append_one {ops : Array Oper} {rest : List Oper} {o : Oper} {a : Act} {Q : Exit → Act → World → Prop} (hgd : o.guard = none) (s x : Operand)
    (ho : o.op = .call { callee := .builtin .append, args := #[s, x], argTypes := #[t, t] })
    (ht : P.underlying t = some (.slice e)) (hinfo : (P.info? e).map (fun i => (i.zero, i.size, i.bytes)) = some (some z, size, bytes)) (hzs : z.cells.size = size) (hsz : 0 < size)
    (hs : a.eval s = v) (H : Own w0 w (slc e size v n xs :: ps))
    {news : List Value} {c : Nat} (hx : a.eval x = .slice (some ⟨w.heap.size, 0, none⟩) 1 c) (hc : c = 1) (hl : news.length = size) (h1 : ∀ u ∈ news, u.oneCell' = true)
    (h63 : n + 1 ≤ 9223372036854775807) (hbytes : (n + 1) * bytes ≤ 140737488355328)
    (h : ∀ v' w', Own w0 w' (slc e size v' (n + 1) (xs ++ news) :: ps) → wpList P ops Q rest (a.put o.dst v') w') : wpList P ops Q (o :: rest) a (w.alloc (.cells news.toArray e)) := by
  subst hc
  refine wpList_append_sep hgd s x ho ht hinfo hzs hsz hs (H.alloc' _) (m := 1) (news := news) ?_ h1 h63 hbytes h
  rw [hx]
  exact ((H.made news e size 1 (by simpa using hl) (by simp [maxLen])).rd)
end
/-- It returns a value of which R holds. -/
def Ret (R : Value → World → Prop) (e : Ending) (w' : World) : Prop := ∃ v, e = .returned v ∧ R v w'
theorem val_int {k : IntKind} {a b : Int} (h : a = b) : Value.int k a = .int k b := by rw [h]
theorem ints_get (k : IntKind) (xs : List Int) {j : Nat} (h : j < xs.length) : (xs.map (Value.int k))[j]? = some (.int k (xs.getD j 0)) := by
  simp [List.getD, h]
def sliceLen : Value → Nat | .slice _ n _ => n | _ => 0
end Go.Proofs.Ytljejkdkjnbmhaa
/- What comes in, read: a slice of whatever elements; structs of a few plain fields. No program in sight. -/
namespace Go.Proofs.Ytljejkdkjnbmhaa
open Go.RowKit Go.ChangeShapes Go.WideShapes Go.Deep

section
variable {H : Type} {enc : TypeId × Value → H} {P : Program} {w : World}

end
end Go.Proofs.Ytljejkdkjnbmhaa
/- Stores into blocks and slices of the call's own, in a walk: behind each the world is a variable. No program in sight. -/
namespace Go.Proofs.Ytljejkdkjnbmhaa
open Go.RowKit

section
variable {w0 w w' : World} {p q : Piece} {ps qs : List Piece} {e : TypeId} {size n : Nat} {v : Value} {xs : List Value}
variable {P : Program} {t ty : TypeId} {ops : Array Oper} {rest : List Oper} {o : Oper} {a : Act} {Q : Exit → Act → World → Prop}

theorem run_storeAt_row {g off : Nat} {cur : Array Value} {e : TypeId} (x : Value) (hg : w.heap[g]? = some (.cells cur e (0, 0))) (hi : (P.info? ty).map (·.size) = some x.cells.size) (hfit : off + x.cells.size ≤ cur.size) (h1 : ∀ u ∈ x.cells.toList, u.oneCell' = true) :
    (Instr.storeAt ty (.pointer (some ⟨g, off, none⟩)) x).run P w = .ok () (w.setRow g (cur.toList.take off ++ x.cells.toList ++ cur.toList.drop (off + x.cells.size)).toArray) := by
  have hst := run_storeCells_at P g off e x.cells.toList 0 cur w hg (by simpa using hfit) h1
  simp only [Nat.add_zero, Array.length_toList] at hst
  cases hq : P.info? ty with
  | none => simp [hq] at hi
  | some i =>
    have hs : x.cells.size = i.size := by simp [hq] at hi; omega
    simp [Instr.storeAt, Instr.sureAddr, storeVar, sizeOf, typeInfo, hq, hs]
    rw [← hs]
    simpa using hst

theorem Own.setRow {g : Nat} {cur cur' : Array Value} {fr : Nat × Nat} (h : Own w0 w (blk g (.cells cur e fr) :: ps)) : Own w0 (w.setRow g cur') (blk g (.cells cur' e fr) :: ps) :=
  h.turn rfl rfl rfl (by simp [World.setRow]) (setRow_heap w g cur _ e _ h.block.1) (fun k _ hk => setRow_other w g k _ hk)

/-- A store into a block: 'cur'' is what it then holds. -/
theorem wpList_store_blk (hgd : o.guard = none) (x y : Operand) (ho : o.op = .store ty x y) {g off : Nat} {cur : Array Value} (hx : a.eval x = .pointer (some ⟨g, off, none⟩))
    (H : Own w0 w (blk g (.cells cur e) :: ps)) (vs : List Value) (hv : (a.eval y).cells.toList = vs) (hi : (P.info? ty).map (·.size) = some vs.length) (hfit : off + vs.length ≤ cur.size) (h1 : ∀ u ∈ vs, u.oneCell' = true)
    (cur' : Array Value) (hc : (cur.toList.take off ++ vs ++ cur.toList.drop (off + vs.length)).toArray = cur')
    (h : ∀ w', Own w0 w' (blk g (.cells cur' e) :: ps) → wpList P ops Q rest (a.put o.dst undef) w') : wpList P ops Q (o :: rest) a w := by
  refine wpList_plain hgd fun K hK => ?_
  have hl : vs.length = (a.eval y).cells.size := by rw [← hv]; simp
  have hr := run_storeAt_row (P := P) (ty := ty) (a.eval y) H.block.1 (by rw [hi, hl]) (by rw [← hl]; exact hfit) (by rw [hv]; exact h1)
  rw [hv, ← hl, hc] at hr
  unfold Oper.wp execOp
  simp only [ho, hx, Sem.run_bind, Sem.run_pure, Result.andThen_ok, hr]
  exact hK _ _ (h _ H.setRow)

/-- A whole struct (or array) is stored. -/
theorem wpList_store_agg (hgd : o.guard = none) (x y : Operand) (ho : o.op = .store ty x y) {g off : Nat} {cur : Array Value} (hx : a.eval x = .pointer (some ⟨g, off, none⟩))
    (H : Own w0 w (blk g (.cells cur e) :: ps)) {vs : List Value} (hv : a.eval y = .agg vs.toArray) (hi : (P.info? ty).map (·.size) = some vs.length) (hfit : off + vs.length ≤ cur.size) (h1 : ∀ u ∈ vs, u.oneCell' = true)
    {cur' : Array Value} (hc : (cur.toList.take off ++ vs ++ cur.toList.drop (off + vs.length)).toArray = cur')
    (h : ∀ w', Own w0 w' (blk g (.cells cur' e) :: ps) → wpList P ops Q rest (a.put o.dst undef) w') : wpList P ops Q (o :: rest) a w :=
  wpList_store_blk hgd x y ho hx H vs (by rw [hv]; simp [Value.cells]) hi hfit h1 cur' hc h
/-- A value of one cell is stored. -/
theorem wpList_store_one (hgd : o.guard = none) (x y : Operand) (ho : o.op = .store ty x y) {g off : Nat} {cur : Array Value} (hx : a.eval x = .pointer (some ⟨g, off, none⟩))
    (H : Own w0 w (blk g (.cells cur e) :: ps)) {u : Value} (hv : a.eval y = u) (hu : u.cells = #[u]) (hi : (P.info? ty).map (·.size) = some 1) (hfit : off < cur.size) (h1 : u.oneCell' = true)
    {cur' : Array Value} (hc : cur.setIfInBounds off u = cur')
    (h : ∀ w', Own w0 w' (blk g (.cells cur' e) :: ps) → wpList P ops Q rest (a.put o.dst undef) w') : wpList P ops Q (o :: rest) a w :=
  wpList_store_blk hgd x y ho hx H [u] (by rw [hv, hu]) hi (by simp; omega) (by simpa using h1) cur' (by
    rw [← hc, show cur.setIfInBounds off u = (cur.toList.set off u).toArray by apply Array.toList_inj.1; simp, List.set_eq_take_append_cons_drop, if_pos (by simpa using hfit)]
    simp) h

theorem wpList_store_int (hgd : o.guard = none) (x y : Operand) (ho : o.op = .store ty x y) {g off : Nat} {cur : Array Value} (hx : a.eval x = .pointer (some ⟨g, off, none⟩))
    (H : Own w0 w (blk g (.cells cur e) :: ps)) {k : IntKind} {m : Int} (hv : a.eval y = .int k m) (hi : (P.info? ty).map (·.size) = some 1) (hfit : off < cur.size)
    (h : ∀ w', Own w0 w' (blk g (.cells (cur.setIfInBounds off (.int k m)) e) :: ps) → wpList P ops Q rest (a.put o.dst undef) w') : wpList P ops Q (o :: rest) a w :=
  wpList_store_one hgd x y ho hx H hv rfl hi hfit rfl rfl h
theorem wpList_store_bool (hgd : o.guard = none) (x y : Operand) (ho : o.op = .store ty x y) {g off : Nat} {cur : Array Value} (hx : a.eval x = .pointer (some ⟨g, off, none⟩))
    (H : Own w0 w (blk g (.cells cur e) :: ps)) {m : Bool} (hv : a.eval y = .bool m) (hi : (P.info? ty).map (·.size) = some 1) (hfit : off < cur.size)
    (h : ∀ w', Own w0 w' (blk g (.cells (cur.setIfInBounds off (.bool m)) e) :: ps) → wpList P ops Q rest (a.put o.dst undef) w') : wpList P ops Q (o :: rest) a w :=
  wpList_store_one hgd x y ho hx H hv rfl hi hfit rfl rfl h
theorem wpList_store_string (hgd : o.guard = none) (x y : Operand) (ho : o.op = .store ty x y) {g off : Nat} {cur : Array Value} (hx : a.eval x = .pointer (some ⟨g, off, none⟩))
    (H : Own w0 w (blk g (.cells cur e) :: ps)) {m : ByteArray} (hv : a.eval y = .string m) (hi : (P.info? ty).map (·.size) = some 1) (hfit : off < cur.size)
    (h : ∀ w', Own w0 w' (blk g (.cells (cur.setIfInBounds off (.string m)) e) :: ps) → wpList P ops Q rest (a.put o.dst undef) w') : wpList P ops Q (o :: rest) a w :=
  wpList_store_one hgd x y ho hx H hv rfl hi hfit rfl rfl h
theorem wpList_store_ptr (hgd : o.guard = none) (x y : Operand) (ho : o.op = .store ty x y) {g off : Nat} {cur : Array Value} (hx : a.eval x = .pointer (some ⟨g, off, none⟩))
    (H : Own w0 w (blk g (.cells cur e) :: ps)) {m : Option Addr} (hv : a.eval y = .pointer m) (hi : (P.info? ty).map (·.size) = some 1) (hfit : off < cur.size)
    (h : ∀ w', Own w0 w' (blk g (.cells (cur.setIfInBounds off (.pointer m)) e) :: ps) → wpList P ops Q rest (a.put o.dst undef) w') : wpList P ops Q (o :: rest) a w :=
  wpList_store_one hgd x y ho hx H hv rfl hi hfit rfl rfl h
theorem wpList_store_slice (hgd : o.guard = none) (x y : Operand) (ho : o.op = .store ty x y) {g off : Nat} {cur : Array Value} (hx : a.eval x = .pointer (some ⟨g, off, none⟩))
    (H : Own w0 w (blk g (.cells cur e) :: ps)) {m : Option Addr} {l c : Nat} (hv : a.eval y = .slice m l c) (hi : (P.info? ty).map (·.size) = some 1) (hfit : off < cur.size)
    (h : ∀ w', Own w0 w' (blk g (.cells (cur.setIfInBounds off (.slice m l c)) e) :: ps) → wpList P ops Q rest (a.put o.dst undef) w') : wpList P ops Q (o :: rest) a w :=
  wpList_store_one hgd x y ho hx H hv rfl hi hfit rfl rfl h
/-- A store to an element (one cell wide) of a slice of the call's own. -/
theorem wpList_store_slc (hgd : o.guard = none) (x y : Operand) (ho : o.op = .store ty x y) {g j c : Nat} (hx : a.eval x = .pointer (some ⟨g, j, none⟩))
    (H : Own w0 w (slc e 1 (.slice (some ⟨g, 0, none⟩) n c) n xs :: ps)) (u : Value) (hv : (a.eval y).cells.toList = [u]) (hi : (P.info? ty).map (·.size) = some 1) (hj : j < n) (h1 : u.oneCell' = true)
    (h : ∀ w', Own w0 w' (slc e 1 (.slice (some ⟨g, 0, none⟩) n c) n (xs.set j u) :: ps) → wpList P ops Q rest (a.put o.dst undef) w') : wpList P ops Q (o :: rest) a w := by
  rcases H.slc_cases with ⟨hn, _⟩ | ⟨g', cap, cur, he, hl, c1, c2, c3, c4, h5⟩
  · cases hn
  · cases he
    refine wpList_store_blk hgd x y ho hx h5 [u] hv hi (by simp; omega) (by simpa using h1) _ rfl fun w' h' => h w' ?_
    refine h'.slc_mk (by simpa using hl) c1 c2 ?_ ?_
    · simp; omega
    · have hlen : j < cur.toList.length := by simp; omega
      have hset : cur.toList.take j ++ [u] ++ cur.toList.drop (j + [u].length) = cur.toList.set j u := by
        rw [List.set_eq_take_append_cons_drop, if_pos hlen]; simp
      rw [hset, List.toList_toArray, List.take_set, ← c4]
end
end Go.Proofs.Ytljejkdkjnbmhaa
/- Slices of the call's own that begin anywhere in their row (what 'xs = xs[1:]' leaves): append, reslices, stores. No program in sight. -/
namespace Go.Proofs.Ytljejkdkjnbmhaa
open Go.RowKit

/-- A slice that lies in a row of its own, behind o cells that nobody reads: n elements of 'size' cells, the cells xs; or nil. -/
def sld (e : TypeId) (size : Nat) (v : Value) (n : Nat) (xs : List Value) : Piece := fun h =>
  xs.length = n * size ∧ ((v = .slice none 0 0 ∧ n = 0 ∧ h = []) ∨
    ∃ g o cap cur, v = .slice (some ⟨g, o, none⟩) n cap ∧ h = [(g, .cells cur e (0, 0))] ∧ n ≤ cap ∧ cap ≤ maxLen ∧ o + cap * size ≤ cur.size ∧ (cur.toList.drop o).take (n * size) = xs)

section
variable {w0 w w' : World} {p q : Piece} {ps qs : List Piece} {e : TypeId} {size n : Nat} {v : Value} {xs : List Value}

variable {P : Program} {t ty : TypeId} {i : TypeInfo} {z : Value} {bytes : Nat}

end
section
variable {w : World} {size n : Nat} {xs : List Value}
/-- The tail of what is read. -/
theorem Rd.tail {ad : Addr} {cap k : Nat} (h : Rd w size (.slice (some ad) n cap) n xs) (hk : k ≤ n) : Rd w size (.slice (some (ad.add (k * size))) (n - k) (cap - k)) (n - k) (xs.drop (k * size)) := by
  obtain ⟨hl, a, c, e, h1, h2, h3, h4⟩ := h
  cases e
  have e1 : (n - k) * size = n * size - k * size := Nat.sub_mul ..
  refine ⟨by rw [List.length_drop, hl, e1], _, _, rfl, by omega, by omega, by simp, fun ad' had j u hu => ?_⟩
  cases had
  rw [List.getElem?_drop] at hu
  rw [Go.Deep.add_add]
  exact h4 _ rfl _ _ hu
/-- A beginning of what is read. -/
theorem Rd.take {ao : Option Addr} {cap k : Nat} (h : Rd w size (.slice ao n cap) n xs) (hk : k ≤ n) : Rd w size (.slice ao k cap) k (xs.take (k * size)) := by
  obtain ⟨hl, a, c, e, h1, h2, h3, h4⟩ := h
  cases e
  have e3 := Nat.mul_le_mul_right size hk
  refine ⟨by rw [List.length_take, hl]; omega, _, _, rfl, by omega, h2, fun hn => ⟨by have := h3 hn; omega, (h3 hn).2⟩, fun ad' had j u hu => ?_⟩
  rw [List.getElem?_take] at hu
  split at hu
  · exact h4 _ had _ _ hu
  · cases hu
end
section
variable {w0 w : World} {ps : List Piece} {e : TypeId} {size n : Nat} {xs : List Value}
end
end Go.Proofs.Ytljejkdkjnbmhaa
/- Rows that are read, cell by cell; texts. No program in sight. -/
namespace Go.Proofs.Ytljejkdkjnbmhaa
open Go.RowKit

section
variable {w w0 w' : World} {size n : Nat} {xs : List Value} {v : Value} {ps : List Piece}
theorem Rd.cell {b o c j : Nat} {u : Value} (h : Rd w size (.slice (some ⟨b, o, none⟩) n c) n xs) (hu : xs[j]? = some u) : w.cell? ⟨b, o + j, none⟩ = some u := by
  obtain ⟨_, a, c, e, _, _, _, h4⟩ := h
  cases e
  rw [← Addr.add_lit]
  exact h4 _ rfl j u hu
theorem Rd.some (h : Rd w size v n xs) (hn : 0 < xs.length) : ∃ b o c, v = .slice (some ⟨b, o, none⟩) n c ∧ n ≤ c ∧ c ≤ 9223372036854775807 := by
  obtain ⟨b, o, c, e, h1, h2, _⟩ := h.at hn
  exact ⟨b, o, c, e, h1, h2⟩
end

/-- Texts, as cells. -/
def txs (l : List ByteArray) : List Value := l.map .string
/-- Ints, as cells. -/
def nums (l : List Int) : List Value := l.map (.int .i64)
theorem nums_length (l : List Int) : (nums l).length = l.length := by simp [nums]
theorem nums_get {l : List Int} {k : Nat} {s : Int} (h : l[k]? = some s) : (nums l)[k]? = some (.int .i64 s) := by simp [nums, h]
theorem get_of_lt {α : Type _} {l : List α} {k : Nat} (h : k < l.length) : ∃ x, l[k]? = some x := ⟨l[k], List.getElem?_eq_getElem h⟩
end Go.Proofs.Ytljejkdkjnbmhaa
/- A store to a cell of a slice of the call's own, its elements of any width. No program in sight. -/
namespace Go.Proofs.Ytljejkdkjnbmhaa
open Go.RowKit

section
variable {w0 w w' : World} {p q : Piece} {ps qs : List Piece} {e : TypeId} {size n : Nat} {v : Value} {xs : List Value}
variable {P : Program} {t ty : TypeId} {ops : Array Oper} {rest : List Oper} {o : Oper} {a : Act} {Q : Exit → Act → World → Prop}

end
end Go.Proofs.Ytljejkdkjnbmhaa
/- Rows of structs: lists of things of k cells each. No program in sight. -/
namespace Go.Proofs.Ytljejkdkjnbmhaa
open Go.RowKit

section
variable {α : Type} (f : α → List Value) {k : Nat}
def rows (l : List α) : List Value := l.flatMap f
variable (hf : ∀ x, (f x).length = k)
include hf
end

section
variable {w0 w w' : World} {ps : List Piece} {e : TypeId} {size n : Nat} {v : Value} {xs : List Value}
variable {P : Program} {ty : TypeId} {ops : Array Oper} {rest : List Oper} {o : Oper} {a : Act} {Q : Exit → Act → World → Prop}
end
end Go.Proofs.Ytljejkdkjnbmhaa
/- What comes in: ints; texts. -/
namespace Go.Proofs.Ytljejkdkjnbmhaa
open Go.RowKit Go.ChangeShapes Go.WideShapes Go.Deep

section
variable {H : Type} {enc : TypeId × Value → H} {W : World} {a : Option Addr} {len cap : Nat} {d : DataW H} {p : List MemPlace}
end
end Go.Proofs.Ytljejkdkjnbmhaa
/- Stable sorts, plainly: sorted lists, lists that are alike key by key. No program in sight. -/
namespace Go.Proofs.Ytljejkdkjnbmhaa

section
variable {α : Type} (key : α → Int)
/-- Sorted by the key. -/
def Srt (l : List α) : Prop := l.Pairwise fun x y => key x ≤ key y
/-- Alike, key by key. -/
def StEq (l m : List α) : Prop := ∀ k : Int, l.filter (fun x => decide (key x = k)) = m.filter (fun x => decide (key x = k))
variable {key}
/-- The sort. -/
def insF (key : α → Int) (x : α) : List α → List α
  | [] => [x]
  | y :: l => if key x < key y then x :: y :: l else y :: insF key x l
def sortF (key : α → Int) (l : List α) : List α := l.foldl (fun r x => insF key x r) []
/-- Sorted in blocks of so many. -/
def Blk (key : α → Int) (b : Nat) (l : List α) : Prop := ∀ i j x y, i < j → i / b = j / b → l[i]? = some x → l[j]? = some y → key x ≤ key y
/-- The merge's law: two sorted parts become one. -/
def Mrg (key : α → Int) (x y z : List α) : Prop := Srt key z ∧ StEq key (x ++ y) z
end
def cmpI (a b : Int) : Int := if a < b then -1 else if b < a then 1 else 0
def headIs (id : Nat) : Code → Bool
  | .region i _ _ => i == id
  | .seq a _ => headIs id a
  | _ => false
/-- Of a text, from a region on. -/
def fromR (id : Nat) : Code → Option Code
  | .seq a b => if headIs id a then some (.seq a b) else match fromR id a with
    | some c => some c
    | none => fromR id b
  | .cond _ a b => match fromR id a with
    | some c => some c
    | none => fromR id b
  | .block _ c => fromR id c
  | .loop c => fromR id c
  | .scope c => fromR id c
  | _ => none
end Go.Proofs.Ytljejkdkjnbmhaa
/- A region that draws its order, all of whose operations but the last few yield values that are known, and keep a condition S on the world ('calm'): calls too. Then the order does not matter. No program in sight. -/
namespace Go.Proofs.Ytljejkdkjnbmhaa

/-- The operation waits for the k-th. -/
def waits (o : Oper) (k : Nat) : Bool := o.after.any fun e => Region.binds .any e && e.on == k
def isSelect : Op → Bool | .select _ _ => true | _ => false

/-- What the new ones write nobody ahead of the n-th looks at. -/
def newOk (ops : Array Oper) (n : Nat) (nw : List Nat) : Bool :=
  nw.all fun k => decide (k < n) && match ops[k]? with
    | none => true
    | some ok => ok.guard.isNone && match ok.dst with
      | none => true
      | some d => (List.range n).all fun j => match ops[j]? with
        | none => true
        | some oj => !(oj.looksAt ops).contains d

/-- The ones that may be taken ahead, in their order: they wait for nobody but one another. -/
def preOk (ops : Array Oper) (n : Nat) (nw : List Nat) : List Nat → List Nat → Bool
  | _, [] => true
  | done, p :: r => decide (p < n) && !nw.contains p && !done.contains p && (match ops[p]? with
    | none => false
    | some o => o.guard.isNone && o.after.all fun e => !Region.binds .any e || done.contains e.on) && preOk ops n nw (p :: done) r

/-- What is asked of a region's text: whoever reads what another one writes waits for it, or is waited for by it; the operations from n on come last, in their order. -/
def calmOk (ops : Array Oper) (n : Nat) (nw : List Nat := []) (pre : List Nat := []) : Bool :=
  decide (n ≤ ops.size) && (newOk ops n nw && preOk ops n nw [] pre) &&
  (List.range ops.size).all fun j => match ops[j]? with
    | none => true
    | some oj => !isSelect oj.op && oj.after.all (fun e => !Region.binds .any e || decide (e.on < j)) &&
      (decide (n ≤ j) || (List.range n).all fun k => match ops[k]? with
        | none => true
        | some ok => match ok.dst with
          | none => true
          | some d => if k = j then !(oj.looksAt ops).contains d else oj.dst != some d && (!(oj.looksAt ops).contains d || (if k < j then waits oj k else waits ok j))) &&
      (decide (j ≠ n) || (List.range n).all fun i => pre.contains i || (List.range (n + 1)).any fun k => decide (i < k) && match ops[k]? with | none => false | some ok => waits ok i) &&
      (decide (j ≤ n) || waits oj (j - 1))

abbrev Sig := Nat → Option Value
def Sig.upd (σ : Sig) (i : Nat) (v : Value) : Sig := fun k => if k = i then some v else σ k
def Sig.no : Sig := fun _ => none

/-- In every world that meets S the operation yields v, and S holds behind it. -/
def Calm1 (P : Program) (S : Sig → World → Prop) (o : Oper) (a : Act) (v : Value) : Prop :=
  ∀ σ w, S σ w → ∀ (K : Act → World → Prop) (Q : Exit → Act → World → Prop), (∀ w', S σ w' → K (a.put o.dst v) w') → o.wp P a w K Q
/-- In every world that meets S the operation yields something new, of which S then speaks. -/
def New1 (P : Program) (S : Sig → World → Prop) (i : Nat) (o : Oper) (a : Act) : Prop :=
  ∀ σ w, S σ w → ∀ (K : Act → World → Prop) (Q : Exit → Act → World → Prop), (∀ v w', S (σ.upd i v) w' → K (a.put o.dst v) w') → o.wp P a w K Q

def calm (P : Program) (ops : Array Oper) (S : Sig → World → Prop) (nw : List Nat) (R : Act → Prop) : Nat → List Oper → Act → Prop
  | _, [], a => R a
  | i, o :: rest, a => (i ∈ nw ∧ New1 P S i o a ∧ calm P ops S nw R (i + 1) rest a) ∨
      (i ∉ nw ∧ Region.wanted o (yielded ops a.tmps) = true ∧ ∃ v, Calm1 P S o a v ∧ calm P ops S nw R (i + 1) rest (a.put o.dst v)) ∨
      (i ∉ nw ∧ Region.wanted o (yielded ops a.tmps) = false ∧ calm P ops S nw R (i + 1) rest (a.put o.dst undef))

section
variable {P : Program} {ops : Array Oper} {S : Sig → World → Prop} {nw : List Nat} {R : Act → Prop} {a : Act} {o : Oper} {rest : List Oper} {i : Nat}
theorem calm_nil (h : R a) : calm P ops S nw R i [] a := h
theorem calm_step (v : Value) (hi : i ∉ nw) (hw : Region.wanted o (yielded ops a.tmps) = true)
    (h1 : ∀ σ w, S σ w → ∀ (K : Act → World → Prop) (Q : Exit → Act → World → Prop), (∀ w', S σ w' → K (a.put o.dst v) w') → o.wp P a w K Q) (h : calm P ops S nw R (i + 1) rest (a.put o.dst v)) : calm P ops S nw R i (o :: rest) a := .inr (.inl ⟨hi, hw, v, h1, h⟩)
theorem calm_skip (hi : i ∉ nw) (hw : Region.wanted o (yielded ops a.tmps) = false)
    (h : calm P ops S nw R (i + 1) rest (a.put o.dst undef)) : calm P ops S nw R i (o :: rest) a := .inr (.inr ⟨hi, hw, h⟩)
theorem calm_new (hi : i ∈ nw)
    (h1 : ∀ σ w, S σ w → ∀ (K : Act → World → Prop) (Q : Exit → Act → World → Prop), (∀ v w', S (σ.upd i v) w' → K (a.put o.dst v) w') → o.wp P a w K Q) (h : calm P ops S nw R (i + 1) rest a) : calm P ops S nw R i (o :: rest) a := .inl ⟨hi, h1, h⟩
end

/-- The frames of the text's own order. -/
def frames : List (Option Tmp × Value) → Act → Act
  | [], a => a
  | (d, v) :: r, a => frames r (a.put d v)

theorem frames_snoc (l : List (Option Tmp × Value)) (x : Option Tmp × Value) (a : Act) : frames (l ++ [x]) a = (frames l a).put x.1 x.2 := by
  induction l generalizing a with
  | nil => rfl
  | cons y l ih => exact ih _

section
variable {P : Program} {ops : Array Oper} {S : Sig → World → Prop} {nw : List Nat}

/-- Of each operation what it writes, but for the new ones. -/
def dets (nw : List Nat) (i : Nat) : List Oper → List (Option Tmp)
  | [] => []
  | o :: r => (if i ∈ nw then none else o.dst) :: dets nw (i + 1) r
theorem dets_length (nw : List Nat) : ∀ (l : List Oper) (i : Nat), (dets nw i l).length = l.length
  | [], _ => rfl
  | _ :: l, i => by simp [dets, dets_length nw l (i + 1)]
theorem dets_get (nw : List Nat) : ∀ (l : List Oper) (i k : Nat), (dets nw i l)[k]? = (l[k]?).map fun o => if i + k ∈ nw then none else o.dst
  | [], _, _ => by simp [dets]
  | o :: l, i, 0 => by simp [dets]
  | o :: l, i, k + 1 => by
    have := dets_get nw l (i + 1) k
    simp only [dets, List.getElem?_cons_succ, this]
    rw [show i + 1 + k = i + (k + 1) by omega]

theorem calm_frames {R : Act → Prop} : ∀ (l : List Oper) (i : Nat) (a : Act), calm P ops S nw R i l a →
    ∃ vs : List Value, vs.length = l.length ∧ R (frames ((dets nw i l).zip vs) a) ∧
      ∀ k o, l[k]? = some o → ∃ v, vs[k]? = some v ∧
        ((i + k ∈ nw ∧ New1 P S (i + k) o (frames (((dets nw i l).zip vs).take k) a)) ∨
         (i + k ∉ nw ∧ Region.wanted o (yielded ops (frames (((dets nw i l).zip vs).take k) a).tmps) = true ∧ Calm1 P S o (frames (((dets nw i l).zip vs).take k) a) v) ∨
         (i + k ∉ nw ∧ Region.wanted o (yielded ops (frames (((dets nw i l).zip vs).take k) a).tmps) = false ∧ v = undef)) := by
  intro l
  induction l with
  | nil => intro i a h; exact ⟨[], rfl, h, fun k o hk => by simp at hk⟩
  | cons o l ih =>
    intro i a h
    have step : ∀ (v : Value) (a' : Act), a' = a.put (if i ∈ nw then none else o.dst) v → calm P ops S nw R (i + 1) l a' →
        ((i ∈ nw ∧ New1 P S i o a) ∨ (i ∉ nw ∧ Region.wanted o (yielded ops a.tmps) = true ∧ Calm1 P S o a v) ∨ (i ∉ nw ∧ Region.wanted o (yielded ops a.tmps) = false ∧ v = undef)) → ∃ vs : List Value, vs.length = (o :: l).length ∧ R (frames ((dets nw i (o :: l)).zip vs) a) ∧
      ∀ k o', (o :: l)[k]? = some o' → ∃ v, vs[k]? = some v ∧
        ((i + k ∈ nw ∧ New1 P S (i + k) o' (frames (((dets nw i (o :: l)).zip vs).take k) a)) ∨
         (i + k ∉ nw ∧ Region.wanted o' (yielded ops (frames (((dets nw i (o :: l)).zip vs).take k) a).tmps) = true ∧ Calm1 P S o' (frames (((dets nw i (o :: l)).zip vs).take k) a) v) ∨
         (i + k ∉ nw ∧ Region.wanted o' (yielded ops (frames (((dets nw i (o :: l)).zip vs).take k) a).tmps) = false ∧ v = undef)) := by
      intro v a' ha hc h0
      obtain ⟨vs, hl, hR, hk⟩ := ih _ _ hc
      refine ⟨v :: vs, by simp [hl], by rw [ha] at hR; exact hR, fun k o' hk' => ?_⟩
      cases k with
      | zero => simp at hk'; subst hk'; exact ⟨v, rfl, h0⟩
      | succ k =>
        have := hk k o' (by simpa using hk')
        rw [ha, show i + 1 + k = i + (k + 1) by omega] at this
        exact this
    rcases h with ⟨hi, h1, h2⟩ | ⟨hi, hw, v, h1, h2⟩ | ⟨hi, hw, h2⟩
    · exact step undef a (by rw [if_pos hi]; rfl) h2 (.inl ⟨hi, h1⟩)
    · exact step v _ (by rw [if_neg hi]) h2 (.inr (.inl ⟨hi, hw, h1⟩))
    · exact step undef _ (by rw [if_neg hi]) h2 (.inr (.inr ⟨hi, hw, rfl⟩))

/-- The frame a' is a, but that what the k-th writes, for each k of E, stands there. -/
structure Agree (D : Nat → Option (Option Tmp × Value)) (E : Nat → Prop) (a a' : Act) : Prop where
  defers : a'.defers = a.defers
  size : a'.tmps.size = a.tmps.size
  wrote : ∀ k t v, E k → D k = some (some t, v) → t < a.tmps.size → a'.tmps[t]? = some v
  kept : ∀ t, (∀ k v, E k → D k ≠ some (some t, v)) → a'.tmps[t]? = a.tmps[t]?

theorem Agree.put {D : Nat → Option (Option Tmp × Value)} {E : Nat → Prop} {a a' : Act} (h : Agree D E a a') {j : Nat} {d : Option Tmp} {v : Value} (hj : D j = some (d, v))
    (hne : ∀ k t u, k ≠ j → D k = some (some t, u) → d ≠ some t) : Agree D (fun k => E k ∨ k = j) a (a'.put d v) := by
  cases d with
  | none =>
    refine ⟨h.defers, h.size, fun k t u hk hD ht => ?_, fun t ht => h.kept t fun k u hk => ht k u (.inl hk)⟩
    rcases hk with hk | rfl
    · exact h.wrote k t u hk hD ht
    · rw [hj] at hD; cases hD
  | some d =>
    refine ⟨h.defers, by simp [Act.put, h.size], fun k t u hk hD ht => ?_, fun t ht => ?_⟩
    · by_cases hkj : k = j
      · subst hkj
        rw [hj] at hD
        cases hD
        simp [Act.put, h.size, ht]
      · have hdt : d ≠ t := fun e => hne k t u hkj hD (by rw [e])
        have := h.wrote k t u (hk.resolve_right hkj) hD ht
        simpa [Act.put, Array.getElem?_setIfInBounds_ne hdt] using this
    · have hdt : d ≠ t := fun e => ht j v (.inr rfl) (by rw [hj, e])
      simpa [Act.put, Array.getElem?_setIfInBounds_ne hdt] using h.kept t fun k u hk => ht k u (.inl hk)

theorem agree_frames (D : List (Option Tmp × Value)) (hne : ∀ (j k : Nat) (t : Tmp) (u v : Value), k ≠ j → D[k]? = some (some t, u) → D[j]? ≠ some (some t, v)) (a : Act) :
    ∀ n, n ≤ D.length → Agree (fun k => D[k]?) (fun k => k < n) a (frames (D.take n) a) := by
  intro n
  induction n with
  | zero => intro _; exact ⟨rfl, rfl, fun k t v hk => by omega, fun t _ => rfl⟩
  | succ n ih =>
    intro hn
    have hlt : n < D.length := by omega
    obtain ⟨d, v, hDn⟩ : ∃ d v, D[n]? = some (d, v) := ⟨_, _, List.getElem?_eq_getElem hlt⟩
    have e : D.take (n + 1) = D.take n ++ [(d, v)] := by rw [List.take_add_one, hDn]; rfl
    rw [e, frames_snoc]
    have := (ih (by omega)).put (j := n) hDn (fun k t u hk hDk e => by subst e; exact hne n k t u v hk hDk hDn)
    refine ⟨this.defers, this.size, fun k t u hk => this.wrote k t u (by omega), fun t ht => this.kept t fun k u hk => ht k u (by omega)⟩

/-- The new ones' values in their places. -/
def putNew (l : List Oper) (nw : List Nat) (σ : Sig) (a : Act) : Act := nw.foldl (fun a k => a.put ((l[k]?).bind (·.dst)) ((σ k).getD undef)) a
theorem putNew_keeps (l : List Oper) (σ : Sig) : ∀ (nw : List Nat) (a : Act), (putNew l nw σ a).defers = a.defers ∧ (putNew l nw σ a).tmps.size = a.tmps.size := by
  intro nw
  induction nw with
  | nil => exact fun a => ⟨rfl, rfl⟩
  | cons k nw ih =>
    intro a
    have := ih (a.put ((l[k]?).bind (·.dst)) ((σ k).getD undef))
    have h2 : (a.put ((l[k]?).bind (·.dst)) ((σ k).getD undef)).defers = a.defers ∧ (a.put ((l[k]?).bind (·.dst)) ((σ k).getD undef)).tmps.size = a.tmps.size := by
      cases (l[k]?).bind (·.dst) <;> simp [Act.put]
    exact ⟨this.1.trans h2.1, this.2.trans h2.2⟩
theorem putNew_old (l : List Oper) (σ : Sig) (t : Tmp) : ∀ (nw : List Nat) (a : Act), (∀ k ∈ nw, (l[k]?).bind (·.dst) ≠ some t) → (putNew l nw σ a).tmps[t]? = a.tmps[t]? := by
  intro nw
  induction nw with
  | nil => exact fun a _ => rfl
  | cons k nw ih =>
    intro a h
    have h1 := ih (a.put ((l[k]?).bind (·.dst)) ((σ k).getD undef)) fun j hj => h j (by simp [hj])
    have h2 := h k (by simp)
    refine h1.trans ?_
    cases hd : (l[k]?).bind (·.dst) with
    | none => simp [Act.put]
    | some d =>
      have : d ≠ t := fun e => h2 (by rw [hd, e])
      simp [Act.put, Array.getElem?_setIfInBounds_ne this]
theorem putNew_new (l : List Oper) (σ : Sig) (t : Tmp) (k : Nat) : ∀ (nw : List Nat) (a : Act), k ∈ nw → (l[k]?).bind (·.dst) = some t → (∀ j ∈ nw, (l[j]?).bind (·.dst) = some t → j = k) → t < a.tmps.size →
    (putNew l nw σ a).tmps[t]? = some ((σ k).getD undef) := by
  intro nw
  induction nw with
  | nil => exact fun a h => by simp at h
  | cons j nw ih =>
    intro a hk hd hu ht
    have hsz : (a.put ((l[j]?).bind (·.dst)) ((σ j).getD undef)).tmps.size = a.tmps.size := by cases (l[j]?).bind (·.dst) <;> simp [Act.put]
    by_cases hkn : k ∈ nw
    · exact ih (a.put ((l[j]?).bind (·.dst)) ((σ j).getD undef)) hkn hd (fun i hi => hu i (by simp [hi])) (by rw [hsz]; exact ht)
    · have hkj : k = j := by simpa [hkn] using hk
      subst hkj
      have h1 := putNew_old l σ t nw (a.put ((l[k]?).bind (·.dst)) ((σ k).getD undef)) fun i hi he => hkn (hu i (by simp [hi]) he ▸ hi)
      refine h1.trans ?_
      rw [hd]
      simp [Act.put, ht]

theorem same_op {o : Oper} {a a' : Act} (hs : ∀ cs b, o.op ≠ .select cs b) (h : ∀ t ∈ o.looksAt ops, a'.tmps[t]? = a.tmps[t]?) :
    execOp a'.eval o = execOp a.eval o ∧ Region.wanted o (yielded ops a'.tmps) = Region.wanted o (yielded ops a.tmps) := by
  refine ⟨execOp_congr o hs fun x hx => ?_, ?_⟩
  · cases x with
    | tmp t =>
      have := h t (List.mem_append_left _ (List.mem_filterMap.2 ⟨.tmp t, by simpa using hx, rfl⟩))
      simp [Act.eval, this]
    | _ => rfl
  · unfold Region.wanted
    cases hg : o.guard with
    | none => rfl
    | some gw =>
      obtain ⟨g, want⟩ := gw
      have hy : yielded ops a'.tmps g = yielded ops a.tmps g := by
        unfold yielded
        cases ht : (ops[g]?).bind (·.dst) with
        | none => rfl
        | some t =>
          have := h t (by simp [Oper.looksAt, hg, ht])
          simp [this]
      simp only [hy]

theorem waits_spec {o : Oper} {k : Nat} (h : waits o k = true) : ∃ e ∈ o.after, Region.binds .any e = true ∧ e.on = k := by
  unfold waits at h
  obtain ⟨e, he, hb⟩ := Array.any_eq_true'.1 h
  simp only [Bool.and_eq_true, beq_iff_eq] at hb
  exact ⟨e, he, hb.1, hb.2⟩

theorem mem_ready {md : Region.Mode} {listed : Array Bool} {i : Nat} : i ∈ Region.ready md ops listed ↔
    i < ops.size ∧ listed.getD i true = false ∧ ∃ o, ops[i]? = some o ∧ ∀ e ∈ o.after, Region.binds md e = true → listed.getD e.on false = true := by
  unfold Region.ready
  simp only [List.mem_filter, List.mem_range, Bool.and_eq_true, Bool.not_eq_true']
  constructor
  · rintro ⟨h1, h2, h3⟩
    refine ⟨h1, h2, ?_⟩
    cases ho : ops[i]? with
    | none => simp [ho] at h3
    | some o =>
      simp only [ho, Option.map_some, Option.getD_some] at h3
      refine ⟨o, rfl, fun e he hb => ?_⟩
      have := Array.all_eq_true'.1 h3 e he
      simpa [hb] using this
  · rintro ⟨h1, h2, o, ho, h3⟩
    refine ⟨h1, h2, ?_⟩
    simp only [ho, Option.map_some, Option.getD_some]
    refine Array.all_eq_true'.2 fun e he => ?_
    cases hb : Region.binds md e with
    | false => simp
    | true => simpa using h3 e he hb

/-- How many are left. -/
def left (listed : Array Bool) : Nat := ((List.range listed.size).filter fun i => !listed.getD i true).length
theorem filter_less {p p' : Nat → Bool} {j : Nat} : ∀ (l : List Nat), l.Nodup → j ∈ l → p j = true → (∀ x, p' x = (p x && x != j)) → (l.filter p).length = (l.filter p').length + 1 := by
  intro l
  induction l with
  | nil => intro _ h; simp at h
  | cons x l ih =>
    intro hn hj hp hp'
    rw [List.nodup_cons] at hn
    by_cases hx : x = j
    · subst hx
      have e : l.filter p = l.filter p' := List.filter_congr fun y hy => by
        rw [hp' y]
        have : y ≠ x := fun e => hn.1 (e ▸ hy)
        simp [this]
      simp [hp, hp' x, e]
    · have := ih hn.2 (by simpa [Ne.symm hx] using hj) hp hp'
      simp only [List.filter_cons, hp' x]
      by_cases hpx : p x = true
      · simp [hpx, hx, this]
      · simp [hpx, this]
theorem left_set {listed : Array Bool} {j : Nat} (hj : j < listed.size) (hl : listed.getD j true = false) : left listed = left (listed.setIfInBounds j true) + 1 := by
  unfold left
  simp only [Array.size_setIfInBounds]
  refine filter_less (j := j) _ List.nodup_range (by simpa using hj) (by simp [hl]) fun x => ?_
  by_cases hx : x = j
  · subst hx; simp [hj]
  · have : j ≠ x := Ne.symm hx
    simp [Array.getElem?_setIfInBounds_ne this, hx]
theorem left_pos {listed : Array Bool} {j : Nat} (hj : j < listed.size) (hl : listed.getD j true = false) : 0 < left listed := by
  rw [left_set hj hl]; omega

structure Good (ops : Array Oper) (n : Nat) (nw : List Nat) (pre : List Nat) : Prop where
  preOrd : preOk ops n nw [] pre = true
  preAny : ∀ p ∈ pre, p < n ∧ p ∉ nw ∧ ∃ o, ops[p]? = some o ∧ o.guard = none ∧ ∀ e ∈ o.after, Region.binds .any e = true → e.on ∈ pre
  newLt : ∀ k ∈ nw, k < n
  newPlain : ∀ k ∈ nw, ∀ o, ops[k]? = some o → o.guard = none
  newApart : ∀ k ∈ nw, ∀ (ok : Oper) (d : Tmp), ops[k]? = some ok → ok.dst = some d → ∀ (j : Nat) (oj : Oper), j < n → ops[j]? = some oj → d ∉ oj.looksAt ops
  le : n ≤ ops.size
  noSel : ∀ (j : Nat) (o : Oper), ops[j]? = some o → ∀ cs b, o.op ≠ .select cs b
  low : ∀ (j : Nat) (o : Oper), ops[j]? = some o → ∀ e ∈ o.after, Region.binds .any e = true → e.on < j
  own : ∀ (k : Nat) (o : Oper) (d : Tmp), k < n → ops[k]? = some o → o.dst = some d → d ∉ o.looksAt ops
  pair : ∀ (k j : Nat) (ok oj : Oper) (d : Tmp), k < n → j < n → k ≠ j → ops[k]? = some ok → ops[j]? = some oj → ok.dst = some d →
    oj.dst ≠ some d ∧ (d ∉ oj.looksAt ops ∨ (k < j ∧ waits oj k = true) ∨ (j < k ∧ waits ok j = true))
  sink : n < ops.size → ∀ i, i < n → i ∉ pre → ∃ k, i < k ∧ k ≤ n ∧ ∃ o, ops[k]? = some o ∧ waits o i = true
  chain : ∀ (j : Nat) (o : Oper), n < j → ops[j]? = some o → waits o (j - 1) = true

theorem preOk_cons {n p : Nat} {done r : List Nat} (h : preOk ops n nw done (p :: r) = true) :
    p < n ∧ p ∉ nw ∧ p ∉ done ∧ (∃ o, ops[p]? = some o ∧ o.guard = none ∧ ∀ e ∈ o.after, Region.binds .any e = true → e.on ∈ done) ∧ preOk ops n nw (p :: done) r = true := by
  unfold preOk at h
  simp only [Bool.and_eq_true, decide_eq_true_eq, Bool.not_eq_true'] at h
  obtain ⟨⟨⟨⟨h1, h2⟩, h3⟩, h4⟩, h5⟩ := h
  refine ⟨h1, by simpa using h2, by simpa using h3, ?_, h5⟩
  cases ho : ops[p]? with
  | none => simp [ho] at h4
  | some o =>
    simp only [ho, Bool.and_eq_true] at h4
    refine ⟨o, rfl, by simpa using h4.1, fun e he hb => ?_⟩
    have := Array.all_eq_true'.1 h4.2 e he
    simpa [hb] using this
theorem preOk_mem {n : Nat} : ∀ (r done : List Nat), preOk ops n nw done r = true → ∀ p ∈ r, p < n ∧ p ∉ nw ∧ ∃ o, ops[p]? = some o ∧ o.guard = none ∧ ∀ e ∈ o.after, Region.binds .any e = true → e.on ∈ r ∨ e.on ∈ done := by
  intro r
  induction r with
  | nil => intro _ _ p hp; cases hp
  | cons q r ih =>
    intro done h p hp
    obtain ⟨h1, h2, _, ⟨o, ho, hg, he⟩, h5⟩ := preOk_cons h
    rcases List.mem_cons.1 hp with rfl | hp
    · exact ⟨h1, h2, o, ho, hg, fun e hm hb => .inr (he e hm hb)⟩
    · obtain ⟨k1, k2, o', ho', hg', he'⟩ := ih _ h5 p hp
      refine ⟨k1, k2, o', ho', hg', fun e hm hb => ?_⟩
      rcases he' e hm hb with h | h
      · exact .inl (List.mem_cons_of_mem _ h)
      · rcases List.mem_cons.1 h with rfl | h
        · exact .inl (List.mem_cons_self ..)
        · exact .inr h
theorem good_of {n : Nat} {pre : List Nat} (h : calmOk ops n nw pre = true) : Good ops n nw pre := by
  unfold calmOk at h
  rw [Bool.and_eq_true, Bool.and_eq_true, decide_eq_true_eq, List.all_eq_true] at h
  obtain ⟨⟨hn, hnew⟩, h⟩ := h
  rw [Bool.and_eq_true] at hnew
  obtain ⟨hnew, hpre⟩ := hnew
  have hpa : ∀ p ∈ pre, p < n ∧ p ∉ nw ∧ ∃ o, ops[p]? = some o ∧ o.guard = none ∧ ∀ e ∈ o.after, Region.binds .any e = true → e.on ∈ pre := by
    intro p hp
    have := preOk_mem pre [] hpre p hp
    simpa using this
  have hnw : ∀ k ∈ nw, k < n ∧ ∀ ok, ops[k]? = some ok → ok.guard = none ∧ ∀ d, ok.dst = some d → ∀ (j : Nat) (oj : Oper), j < n → ops[j]? = some oj → d ∉ oj.looksAt ops := by
    intro k hk
    unfold newOk at hnew
    rw [List.all_eq_true] at hnew
    have hh := hnew k hk
    rw [Bool.and_eq_true, decide_eq_true_eq] at hh
    refine ⟨hh.1, fun ok hok => ?_⟩
    have h2 := hh.2
    simp only [hok, Bool.and_eq_true] at h2
    refine ⟨by simpa using h2.1, fun d hd j oj hj hoj => ?_⟩
    have h3 := h2.2
    simp only [hd, List.all_eq_true, List.mem_range] at h3
    have h4 := h3 j hj
    simp only [hoj] at h4
    simpa using h4
  have key : ∀ (j : Nat) (oj : Oper), ops[j]? = some oj → (isSelect oj.op = false ∧ (∀ e ∈ oj.after, Region.binds .any e = true → e.on < j)) ∧
      (j < n → ∀ (k : Nat) (ok : Oper) (d : Tmp), k < n → ops[k]? = some ok → ok.dst = some d →
        (k = j → d ∉ oj.looksAt ops) ∧ (k ≠ j → oj.dst ≠ some d ∧ (d ∉ oj.looksAt ops ∨ (k < j ∧ waits oj k = true) ∨ (j < k ∧ waits ok j = true)))) ∧
      (j = n → ∀ i, i < n → i ∉ pre → ∃ k, i < k ∧ k ≤ n ∧ ∃ o, ops[k]? = some o ∧ waits o i = true) ∧ (n < j → waits oj (j - 1) = true) := by
    intro j oj hj
    have hlt : j < ops.size := (Array.getElem?_eq_some_iff.1 hj).1
    have hh := h j (List.mem_range.2 hlt)
    simp only [hj, Bool.and_eq_true, Bool.or_eq_true, Bool.not_eq_true', decide_eq_true_eq, List.all_eq_true, List.any_eq_true, List.mem_range] at hh
    obtain ⟨⟨⟨⟨h1, h2⟩, h3⟩, h4⟩, h5⟩ := hh
    refine ⟨⟨h1, fun e he hb => ?_⟩, fun hjn k ok d hk hok hd => ?_, fun hjn i hi hpi => ?_, fun hnj => ?_⟩
    · have := Array.all_eq_true'.1 h2 e he
      simpa [hb] using this
    · have h6 := (h3.resolve_left (by omega)) k hk
      simp only [hok, hd] at h6
      refine ⟨fun hkj => ?_, fun hkj => ?_⟩
      · rw [if_pos hkj] at h6
        simpa using h6
      · rw [if_neg hkj] at h6
        simp only [Bool.and_eq_true, bne_iff_ne, ne_eq, Bool.or_eq_true, Bool.not_eq_true'] at h6
        refine ⟨h6.1, ?_⟩
        rcases h6.2 with h7 | h7
        · exact .inl (by simpa using h7)
        · by_cases hlt : k < j
          · rw [if_pos hlt] at h7; exact .inr (.inl ⟨hlt, h7⟩)
          · rw [if_neg hlt] at h7; exact .inr (.inr ⟨by omega, h7⟩)
    · rcases h4 with h4 | h4
      · exact absurd hjn h4
      · obtain ⟨k, hk, hik, hw⟩ := (h4 i hi).resolve_left (by simpa using hpi)
        refine ⟨k, hik, by omega, ?_⟩
        cases hok : ops[k]? with
        | none => simp [hok] at hw
        | some ok => exact ⟨ok, rfl, by simpa [hok] using hw⟩
    · rcases h5 with h5 | h5
      · omega
      · exact h5
  refine ⟨hpre, hpa, fun k hk => (hnw k hk).1, fun k hk o ho => ((hnw k hk).2 o ho).1, fun k hk ok d hok hd j oj hj hoj => ((hnw k hk).2 ok hok).2 d hd j oj hj hoj, hn, fun j o ho cs b he => ?_, fun j o ho => (key j o ho).1.2, fun k o d hk ho hd => ((key k o ho).2.1 hk k o d hk ho hd).1 rfl,
    fun k j ok oj d hk hj hkj hok hoj hd => ((key j oj hoj).2.1 hj k ok d hk hok hd).2 hkj, fun hlt i hi hpi => ?_, fun j o hj ho => (key j o ho).2.2.2 hj⟩
  · have := (key j o ho).1.1
    rw [he] at this
    cases this
  · exact (key n _ (Array.getElem?_eq_getElem hlt)).2.2.1 rfl i hi hpi

theorem getD_tf {listed : Array Bool} {k : Nat} (hk : k < listed.size) : listed.getD k true = listed.getD k false := by simp [hk]

theorem left_zero {listed : Array Bool} (h : ∀ k, k < listed.size → listed.getD k true = true) : left listed = 0 := by
  unfold left
  rw [List.length_eq_zero_iff, List.filter_eq_nil_iff]
  intro k hk
  have := h k (by simpa using hk)
  simp only [this, Bool.not_true, Bool.false_eq_true, not_false_eq_true]

theorem tail_any {l : List Oper} {n : Nat} {pre : List Nat} {Q : Exit → Act → World → Prop} (g : Good l.toArray n nw pre) : ∀ (fuel m : Nat) (listed : Array Bool) (a : Act) (w : World), listed.size = l.length → n ≤ m →
    (∀ k, k < m → k < l.length → listed.getD k true = true) → (∀ k, m ≤ k → k < l.length → listed.getD k true = false) → left listed = fuel →
    wpList P l.toArray Q (l.drop m) a w → wpAny P .any l.toArray Q fuel listed a w := by
  intro fuel
  induction fuel with
  | zero =>
    intro m listed a w hs hnm h1 h2 hl hw
    have hm : l.length ≤ m := by
      rcases Nat.lt_or_ge m l.length with h | h
      · have := left_pos (j := m) (by omega) (h2 m (Nat.le_refl _) h); omega
      · exact h
    rw [List.drop_eq_nil_of_le hm] at hw
    refine ⟨List.eq_nil_iff_forall_not_mem.2 fun i hi => ?_, hw⟩
    obtain ⟨hi1, hi2, _⟩ := mem_ready.1 hi
    have hi1 : i < l.length := by simpa using hi1
    rw [h1 i (by omega) hi1] at hi2
    cases hi2
  | succ fuel ih =>
    intro m listed a w hs hnm h1 h2 hl hw
    have hm : m < l.length := by
      rcases Nat.lt_or_ge m l.length with h | h
      · exact h
      · have := left_zero (listed := listed) (fun k hk => h1 k (by omega) (by omega)); omega
    obtain ⟨o, ho⟩ : ∃ o, l[m]? = some o := ⟨_, List.getElem?_eq_getElem hm⟩
    have hoa : l.toArray[m]? = some o := by simpa using ho
    have hready : m ∈ Region.ready .any l.toArray listed := mem_ready.2 ⟨by simpa using hm, h2 m (Nat.le_refl _) hm, o, hoa, fun e he hb => by
      have := g.low m o hoa e he hb
      rw [← getD_tf (by omega)]
      exact h1 _ this (by omega)⟩
    refine ⟨fun h => (by rw [h] at hready; cases hready), fun i hi => ?_⟩
    obtain ⟨hi1, hi2, oi, hoi, hi3⟩ := mem_ready.1 hi
    have hi1 : i < l.length := by simpa using hi1
    have him : i = m := by
      rcases Nat.lt_trichotomy i m with h | h | h
      · rw [h1 i h hi1] at hi2; cases hi2
      · exact h
      · obtain ⟨e, he, hb, heq⟩ := waits_spec (g.chain i oi (by omega) hoi)
        have := hi3 e he hb
        rw [heq, ← getD_tf (by omega), h2 (i - 1) (by omega) (by omega)] at this
        cases this
    subst him
    have hd : l.drop i = o :: l.drop (i + 1) := by
      rw [List.drop_eq_getElem_cons hm]
      congr 1
      have := List.getElem?_eq_getElem hm
      rw [ho] at this
      exact (Option.some.inj this).symm
    rw [hd] at hw
    have hop : wpOp P l.toArray Q i (wpList P l.toArray Q (l.drop (i + 1))) a w := by
      unfold wpOp
      simp only [hoa]
      exact hw
    refine wpOp_mono (fun a' w' h' => ih (i + 1) _ a' w' (by simpa using hs) (by omega) ?_ ?_ ?_ h') hop
    · intro k hk hkl
      by_cases hki : k = i
      · subst hki; simp [hs, hm]
      · have : i ≠ k := Ne.symm hki
        simpa [Array.getElem?_setIfInBounds_ne this] using h1 k (by omega) hkl
    · intro k hk hkl
      have : i ≠ k := by omega
      simpa [Array.getElem?_setIfInBounds_ne this] using h2 k (by omega) hkl
    · have := left_set (j := i) (by omega) hi2
      omega

theorem act_ext {a b : Act} (h : a.tmps = b.tmps) (h2 : a.defers = b.defers) : a = b := by cases a; cases b; simp_all
theorem put_eq {a b : Act} (h : a.tmps.size = b.tmps.size) {d : Option Tmp} {u v : Value} (e : a.put d u = a.put d v) : b.put d u = b.put d v := by
  cases d with
  | none => rfl
  | some d =>
    by_cases hd : d < a.tmps.size
    · have := congrArg (fun x => x.tmps[d]?) e
      simp only [Act.put, Array.getElem?_setIfInBounds_self, hd, if_true, Option.some.injEq] at this
      rw [this]
    · have hb : ∀ x, b.tmps.setIfInBounds d x = b.tmps := fun x => Array.setIfInBounds_eq_of_size_le (Nat.le_of_not_lt (h ▸ hd))
      simp [Act.put, hb]

theorem Calm1.at {o : Oper} {a a' : Act} {v : Value} (h : Calm1 P S o a v) (he : execOp a'.eval o = execOp a.eval o) (hs : a.tmps.size = a'.tmps.size) {σ : Sig} {w : World} (hw : S σ w)
    (K : Act → World → Prop) (Q : Exit → Act → World → Prop) (hK : ∀ w', S σ w' → K (a'.put o.dst v) w') : o.wp P a' w K Q := by
  have h1 := h σ w hw (fun a1 w1 => a1 = a.put o.dst v ∧ S σ w1) (fun _ _ _ => False) (fun w' hw' => ⟨rfl, hw'⟩)
  unfold Oper.wp at *
  rw [he]
  generalize (execOp a.eval o).run P w = r at *
  cases r with
  | ok n w' =>
    cases n <;> simp only [Oper.upon] at h1 ⊢
    case value u => rw [put_eq hs h1.1]; exact hK _ h1.2
    case skip => rw [put_eq hs h1.1]; exact hK _ h1.2
    case defer d =>
      have := congrArg (fun x => x.defers.length) h1.1
      cases hd : o.dst <;> simp [Act.put, hd] at this
    case enter f args =>
      refine Calls.mono h1 fun e w'' he => ?_
      cases e with
      | returned u =>
        show K (a'.put o.dst u) w''
        rw [put_eq hs he.1]; exact hK _ he.2
      | panicked c => exact he.elim
      | outgrown => obtain ⟨_, _, hh⟩ := he; exact hh.elim
    case row row args => exact Rows.mono h1 fun u w'' he => by rw [put_eq hs he.1]; exact hK _ he.2
  | halt x w' => cases x <;> simp only [Oper.upon] at h1 ⊢
theorem New1.at {i : Nat} {o : Oper} {a a' : Act} (h : New1 P S i o a) (he : execOp a'.eval o = execOp a.eval o) (hs : a.tmps.size = a'.tmps.size) {σ : Sig} {w : World} (hw : S σ w)
    (K : Act → World → Prop) (Q : Exit → Act → World → Prop) (hK : ∀ v w', S (σ.upd i v) w' → K (a'.put o.dst v) w') : o.wp P a' w K Q := by
  have h1 := h σ w hw (fun a1 w1 => ∃ v, a1 = a.put o.dst v ∧ S (σ.upd i v) w1) (fun _ _ _ => False) (fun v w' hw' => ⟨v, rfl, hw'⟩)
  unfold Oper.wp at *
  rw [he]
  generalize (execOp a.eval o).run P w = r at *
  cases r with
  | ok n w' =>
    cases n <;> simp only [Oper.upon] at h1 ⊢
    case value u => obtain ⟨v, e1, e2⟩ := h1; rw [put_eq hs e1]; exact hK _ _ e2
    case skip => obtain ⟨v, e1, e2⟩ := h1; rw [put_eq hs e1]; exact hK _ _ e2
    case defer d =>
      obtain ⟨v, e1, e2⟩ := h1
      have := congrArg (fun x => x.defers.length) e1
      cases hd : o.dst <;> simp [Act.put, hd] at this
    case enter f args =>
      refine Calls.mono h1 fun e w'' he => ?_
      cases e with
      | returned u =>
        show K (a'.put o.dst u) w''
        obtain ⟨v, e1, e2⟩ := he
        rw [put_eq hs e1]; exact hK _ _ e2
      | panicked c => exact he.elim
      | outgrown => obtain ⟨_, _, hh⟩ := he; exact hh.elim
    case row row args => exact Rows.mono h1 fun u w'' he => by obtain ⟨v, e1, e2⟩ := he; rw [put_eq hs e1]; exact hK _ _ e2
  | halt x w' => cases x <;> simp only [Oper.upon] at h1 ⊢

/-- The ones that are taken ahead, in their order, each yielding its value in whatever world. -/
def PreRun (P : Program) (l : List Oper) : List Nat → Act → Act → Prop
  | [], a, a0 => a0 = a
  | p :: r, a, a0 => ∃ o v, l[p]? = some o ∧ (∀ w, (execOp a.eval o).run P w = .ok (.value v) w) ∧ PreRun P l r (a.put o.dst v) a0

theorem wpAny_new {Q : Exit → Act → World → Prop} {a a0 : Act} {w : World} {l : List Oper} (S : Sig → World → Prop) (n : Nat) (nw : List Nat) (pre : List Nat) (hok : calmOk l.toArray n nw pre = true) (hS : S Sig.no w)
    (h : calm P l.toArray S nw (fun a' => ∀ σ w', (∀ k ∈ nw, (σ k).isSome = true) → S σ w' → wpList P l.toArray Q (l.drop n) (putNew l nw σ a') w') 0 (l.take n) a)
    (listed0 : Array Bool) (hs0 : listed0.size = l.length) (hl0 : ∀ k, k < l.length → listed0.getD k true = true → k ∈ pre) (hp0 : ∀ p ∈ pre, listed0.getD p true = true)
    (ha0 : PreRun P l pre a a0) :
    wpAny P .any l.toArray Q (left listed0) listed0 a0 w := by
  have g := good_of hok
  have hnl : n ≤ l.length := by simpa using g.le
  obtain ⟨vs, hvl, hR, hk⟩ := calm_frames _ _ _ h
  have hvn : vs.length = n := by simp [hvl, hnl]
  obtain ⟨D, hD⟩ : ∃ D, (dets nw 0 (l.take n)).zip vs = D := ⟨_, rfl⟩
  rw [hD] at hR hk
  simp only [Nat.zero_add] at hk
  have hDl : D.length = n := by rw [← hD]; simp [dets_length, hvn, hnl]
  have hget : ∀ k, k < n → (dets nw 0 (l.take n))[k]? = (l[k]?).map fun o => if k ∈ nw then none else o.dst := by
    intro k hk
    rw [dets_get]
    simp [hk]
  -- the k-th of D
  have hDk : ∀ (k : Nat) (o : Oper) (v : Value), k < n → k ∉ nw → l[k]? = some o → vs[k]? = some v → D[k]? = some (o.dst, v) := by
    intro k o v hkn hnk ho hv
    rw [← hD, List.getElem?_zip_eq_some]
    refine ⟨?_, hv⟩
    rw [hget k hkn, ho]
    simp [hnk]
  have hDd : ∀ (k : Nat) (t : Tmp) (v : Value), D[k]? = some (some t, v) → k < n ∧ k ∉ nw ∧ ∃ o, l[k]? = some o ∧ o.dst = some t := by
    intro k t v hk
    have hkn : k < n := by rw [← hDl]; exact (List.getElem?_eq_some_iff.1 hk).1
    rw [← hD, List.getElem?_zip_eq_some] at hk
    obtain ⟨h1, _⟩ := hk
    rw [hget k hkn, Option.map_eq_some_iff] at h1
    obtain ⟨o, ho, hd⟩ := h1
    by_cases hnk : k ∈ nw
    · simp [hnk] at hd
    · rw [if_neg hnk] at hd
      exact ⟨hkn, hnk, o, ho, hd⟩
  have huniq : ∀ (j k : Nat) (t : Tmp) (u v : Value), k ≠ j → D[k]? = some (some t, u) → D[j]? ≠ some (some t, v) := by
    intro j k t u v hkj h1 h2
    obtain ⟨hkn, _, ok, hok', hdk⟩ := hDd k _ u h1
    obtain ⟨hjn, _, oj, hoj, hdj⟩ := hDd j _ v h2
    exact (g.pair k j ok oj t hkn hjn hkj (by simpa using hok') (by simpa using hoj) hdk).1 hdj
  -- .. with the new ones' values
  obtain ⟨F, hF⟩ : ∃ F : Sig → Nat → Option (Option Tmp × Value), ∀ σ k, F σ k = if k ∈ nw then (l[k]?).map fun o => (o.dst, (σ k).getD undef) else D[k]? := ⟨_, fun _ _ => rfl⟩
  have hFd : ∀ (σ : Sig) (k : Nat) (t : Tmp) (v : Value), F σ k = some (some t, v) → k < n ∧ ∃ o, l[k]? = some o ∧ o.dst = some t := by
    intro σ k t v hk
    rw [hF] at hk
    by_cases hnk : k ∈ nw
    · rw [if_pos hnk, Option.map_eq_some_iff] at hk
      obtain ⟨o, ho, hd⟩ := hk
      exact ⟨g.newLt k hnk, o, ho, by simp at hd; exact hd.1⟩
    · rw [if_neg hnk] at hk
      obtain ⟨h1, _, h3⟩ := hDd k t v hk
      exact ⟨h1, h3⟩
  have hFu : ∀ (σ : Sig) (j k : Nat) (t : Tmp) (u v : Value), k ≠ j → F σ k = some (some t, u) → F σ j ≠ some (some t, v) := by
    intro σ j k t u v hkj h1 h2
    obtain ⟨hkn, ok, hok', hdk⟩ := hFd σ k _ u h1
    obtain ⟨hjn, oj, hoj, hdj⟩ := hFd σ j _ v h2
    exact (g.pair k j ok oj t hkn hjn hkj (by simpa using hok') (by simpa using hoj) hdk).1 hdj
  have hend : ∀ (E : Nat → Prop) (a' : Act) (σ : Sig), (∀ k, k < n → E k) → Agree (F σ) E a a' → a' = putNew l nw σ (frames D a) := by
    intro E a' σ hall hA
    have hB := agree_frames D huniq a n (by omega)
    rw [List.take_of_length_le (by omega)] at hB
    obtain ⟨k1, k2⟩ := putNew_keeps l σ nw (frames D a)
    refine act_ext ?_ (hA.defers.trans (hB.defers.symm.trans k1.symm))
    apply Array.ext_getElem?
    intro t
    by_cases hts : t < a.tmps.size
    · by_cases hw : ∃ (k : Nat) (v : Value), F σ k = some (some t, v)
      · obtain ⟨k, v, hkv⟩ := hw
        obtain ⟨hkn, o, ho, hd⟩ := hFd σ k _ v hkv
        rw [hA.wrote k t v (hall k hkn) hkv hts]
        have hkv' := hkv
        rw [hF] at hkv
        by_cases hnk : k ∈ nw
        · rw [if_pos hnk, ho] at hkv
          simp at hkv
          rw [putNew_new l σ t k nw _ hnk (by simp [ho, hd]) (fun j hj hdj => ?_) (by rw [hB.size]; exact hts), hkv.2]
          by_cases hjk : j = k
          · exact hjk
          · exfalso
            cases hlj : l[j]? with
            | none => rw [hlj] at hdj; cases hdj
            | some oj =>
              rw [hlj] at hdj
              refine hFu σ j k t v ((σ j).getD undef) (Ne.symm hjk) hkv' ?_
              rw [hF, if_pos hj, hlj]
              simp at hdj
              simp [hdj]
        · rw [if_neg hnk] at hkv
          rw [putNew_old l σ t nw _ fun j hj hdj => ?_, hB.wrote k t v hkn hkv hts]
          cases hlj : l[j]? with
          | none => rw [hlj] at hdj; cases hdj
          | some oj =>
            rw [hlj] at hdj
            refine hFu σ j k t v ((σ j).getD undef) (fun e => hnk (e ▸ hj)) hkv' ?_
            rw [hF, if_pos hj, hlj]
            simp at hdj
            simp [hdj]
      · rw [hA.kept t fun k v _ hkv => hw ⟨k, v, hkv⟩, putNew_old l σ t nw _ fun j hj hdj => ?_, hB.kept t fun k v _ hkv => ?_]
        · obtain ⟨_, hnk, _⟩ := hDd k t v hkv
          exact hw ⟨k, v, by rw [hF, if_neg hnk]; exact hkv⟩
        · cases hlj : l[j]? with
          | none => rw [hlj] at hdj; cases hdj
          | some oj =>
            rw [hlj] at hdj
            refine hw ⟨j, (σ j).getD undef, ?_⟩
            rw [hF, if_pos hj, hlj]
            simp at hdj
            simp [hdj]
    · rw [Array.getElem?_eq_none (show a'.tmps.size ≤ t from by rw [hA.size]; exact Nat.le_of_not_lt hts), Array.getElem?_eq_none (show (putNew l nw σ (frames D a)).tmps.size ≤ t from by rw [k2, hB.size]; exact Nat.le_of_not_lt hts)]
  have main : ∀ (fuel : Nat) (listed : Array Bool) (a' : Act) (w' : World) (σ : Sig), listed.size = l.length → left listed = fuel → (∀ j, n ≤ j → j < l.length → listed.getD j true = false) →
      (∀ k o, k < l.length → listed.getD k true = true → l[k]? = some o → ∀ e ∈ o.after, Region.binds .any e = true → listed.getD e.on false = true) →
      (∀ k ∈ nw, listed.getD k true = true → (σ k).isSome = true) → (∀ p ∈ pre, listed.getD p true = true) →
      Agree (F σ) (fun k => k < n ∧ listed.getD k true = true) a a' → S σ w' → wpAny P .any l.toArray Q fuel listed a' w' := by
    intro fuel
    induction fuel with
    | zero =>
      intro listed a' w' σ hs hl ht hc hσ hP hA hSw
      have hall : ∀ k, k < l.length → listed.getD k true = true := fun k hk => by
        cases hkk : listed.getD k true with
        | true => rfl
        | false => have := left_pos (j := k) (by omega) hkk; omega
      have hn : n = l.length := by
        rcases Nat.lt_or_ge n l.length with h | h
        · have := hall n h; rw [ht n (Nat.le_refl _) h] at this; cases this
        · omega
      refine tail_any g 0 n listed a' w' hs (Nat.le_refl _) (fun k _ hk => hall k hk) ht hl ?_
      rw [hend _ a' σ (fun k hk => ⟨hk, hall k (by omega)⟩) hA]
      exact hR σ w' (fun k hk => hσ k hk (hall k (by have := g.newLt k hk; omega))) hSw
    | succ fuel ih =>
      intro listed a' w' σ hs hl ht hc hσ hP hA hSw
      by_cases hpre : ∀ k, k < n → listed.getD k true = true
      · refine tail_any g (fuel + 1) n listed a' w' hs (Nat.le_refl _) (fun k hk _ => hpre k hk) ht hl ?_
        rw [hend _ a' σ (fun k hk => ⟨hk, hpre k hk⟩) hA]
        exact hR σ w' (fun k hk => hσ k hk (hpre k (g.newLt k hk))) hSw
      · -- the least that is not listed is ready
        have hex : ∃ k, k < n ∧ listed.getD k true = false := by
          rcases Classical.em (∃ k, k < n ∧ listed.getD k true = false) with h | h
          · exact h
          · exact absurd (fun k hk => by
              cases hkk : listed.getD k true with
              | true => rfl
              | false => exact absurd ⟨k, hk, hkk⟩ h) hpre
        obtain ⟨m, hm, hmin⟩ : ∃ m, (m < n ∧ listed.getD m true = false) ∧ ∀ k, k < m → listed.getD k true = true := by
          obtain ⟨k, hk⟩ := hex
          induction k using Nat.strongRecOn with
          | _ k ihk =>
            rcases Classical.em (∃ j, j < k ∧ listed.getD j true = false) with ⟨j, hj, hjl⟩ | h
            · exact ihk j hj ⟨by omega, hjl⟩
            · refine ⟨k, hk, fun j hj => ?_⟩
              cases hjj : listed.getD j true with
              | true => rfl
              | false => exact absurd ⟨j, hj, hjj⟩ h
        obtain ⟨om, hom⟩ : ∃ o, l[m]? = some o := ⟨_, List.getElem?_eq_getElem (by omega)⟩
        have hready : m ∈ Region.ready .any l.toArray listed := mem_ready.2 ⟨by simp; omega, hm.2, om, by simpa using hom, fun e he hb => by
          have := g.low m om (by simpa using hom) e he hb
          rw [← getD_tf (by omega)]
          exact hmin _ this⟩
        refine ⟨fun h => (by rw [h] at hready; cases hready), fun i hi => ?_⟩
        obtain ⟨hi1, hi2, o, ho, hi3⟩ := mem_ready.1 hi
        have hi1 : i < l.length := by simpa using hi1
        have hol : l[i]? = some o := by simpa using ho
        have hin : i < n := by
          rcases Nat.lt_trichotomy i n with h | h | h
          · exact h
          · -- all that it waits for, and so all, are listed
            subst h
            have hall : ∀ d k, i - k = d → k < i → listed.getD k true = true := by
              intro d
              induction d using Nat.strongRecOn with
              | _ d ihd =>
                intro k hd hk
                by_cases hpk : k ∈ pre
                · exact hP k hpk
                obtain ⟨j, hkj, hji, oj, hoj, hwj⟩ := g.sink (by simpa using hi1) k hk hpk
                obtain ⟨e, he, hb, heq⟩ := waits_spec hwj
                rw [getD_tf (by omega), ← heq]
                rcases Nat.lt_or_ge j i with hlt | hge
                · have hjl := ihd (i - j) (by omega) j rfl hlt
                  exact hc j oj (by omega) hjl (by simpa using hoj) e he hb
                · have : j = i := by omega
                  subst this
                  rw [ho] at hoj
                  cases hoj
                  exact hi3 e he hb
            have := hall _ m rfl hm.1
            rw [hm.2] at this
            cases this
          · obtain ⟨e, he, hb, heq⟩ := waits_spec (g.chain i o h (by simpa using hol))
            have := hi3 e he hb
            rw [heq, ← getD_tf (by omega), ht (i - 1) (by omega) (by omega)] at this
            cases this
        obtain ⟨v, hv, hcase⟩ := hk i o (by simp [hin, hol])
        have hAi := agree_frames D huniq a i (by omega)
        have hsame := same_op (ops := l.toArray) (o := o) (a := frames (D.take i) a) (a' := a') (g.noSel i o ho) (by
          intro t htl
          by_cases hw : ∃ (k : Nat) (u : Value), F σ k = some (some t, u)
          · obtain ⟨k, u, hku⟩ := hw
            obtain ⟨hkn, ok, hok', hdk⟩ := hFd σ k _ u hku
            have hnk : k ∉ nw := fun hnk => g.newApart k hnk ok t (by simpa using hok') hdk i o hin ho htl
            have hDu : D[k]? = some (some t, u) := by rw [hF, if_neg hnk] at hku; exact hku
            by_cases hts : t < a.tmps.size
            · have hki : k ≠ i := fun e => by
                subst e
                rw [hol] at hok'
                cases hok'
                exact g.own k o t hkn ho hdk htl
              rcases (g.pair k i ok o t hkn hin hki (by simpa using hok') ho hdk).2 with h1 | ⟨hlt, hwt⟩ | ⟨hlt, hwt⟩
              · exact absurd htl h1
              · obtain ⟨e, he, hb, heq⟩ := waits_spec hwt
                have hkl : listed.getD k true = true := by
                  rw [getD_tf (by omega), ← heq]; exact hi3 e he hb
                rw [hA.wrote k t u ⟨hkn, hkl⟩ hku hts, hAi.wrote k t u hlt hDu hts]
              · obtain ⟨e, he, hb, heq⟩ := waits_spec hwt
                have hkl : ¬ listed.getD k true = true := fun hkl => by
                  have := hc k ok (by omega) hkl hok' e he hb
                  rw [heq, ← getD_tf (by omega), hi2] at this
                  cases this
                rw [hA.kept t fun k' u' hk' hD' => ?_, hAi.kept t fun k' u' hk' hD' => ?_]
                · by_cases hkk : k' = k
                  · subst hkk; omega
                  · exact huniq k k' t u' u hkk hD' hDu
                · by_cases hkk : k' = k
                  · subst hkk; exact hkl hk'.2
                  · exact hFu σ k k' t u' u hkk hD' hku
            · rw [Array.getElem?_eq_none (show a'.tmps.size ≤ t from by rw [hA.size]; exact Nat.le_of_not_lt hts), Array.getElem?_eq_none (show (frames (D.take i) a).tmps.size ≤ t from by rw [hAi.size]; exact Nat.le_of_not_lt hts)]
          · rw [hA.kept t fun k v _ hkv => hw ⟨k, v, hkv⟩, hAi.kept t fun k v _ hkv => ?_]
            obtain ⟨_, hnk, _⟩ := hDd k t v hkv
            exact hw ⟨k, v, by rw [hF, if_neg hnk]; exact hkv⟩)
        have hset : ∀ k b, (listed.setIfInBounds i true).getD k b = if k = i then true else listed.getD k b := by
          intro k b
          by_cases hki : k = i
          · subst hki; simp [hs, hi1]
          · have : i ≠ k := Ne.symm hki
            simp [Array.getElem?_setIfInBounds_ne this, hki]
        have next : ∀ (σ' : Sig) (u : Value) w'', F σ' i = some (o.dst, u) → Agree (F σ') (fun k => k < n ∧ listed.getD k true = true) a a' → (∀ k ∈ nw, (listed.setIfInBounds i true).getD k true = true → (σ' k).isSome = true) → S σ' w'' →
            wpAny P .any l.toArray Q fuel (listed.setIfInBounds i true) (a'.put o.dst u) w'' := by
          intro σ' u w'' hFi hA' hσ' hSw''
          refine ih _ _ w'' σ' (by simpa using hs) (by have := left_set (j := i) (by omega) hi2; omega) ?_ ?_ hσ' (fun p hp => by rw [hset]; split <;> first | rfl | exact hP p hp) ?_ hSw''
          · intro j hj hjl
            rw [hset, if_neg (by omega)]
            exact ht j hj hjl
          · intro k ok hkl hkt hok' e he hb
            rw [hset]
            split
            · rfl
            · rw [hset] at hkt
              by_cases hki : k = i
              · subst hki
                rw [hol] at hok'
                cases hok'
                exact hi3 e he hb
              · rw [if_neg hki] at hkt
                exact hc k ok hkl hkt hok' e he hb
          · have := hA'.put (j := i) hFi (fun k t u' hki hD' e => hFu σ' i k t u' u hki hD' (by rw [hFi, e]))
            refine ⟨this.defers, this.size, fun k t u hk => this.wrote k t u ?_, fun t ht => this.kept t fun k u hk => ht k u ?_⟩
            · obtain ⟨h1, h2⟩ := hk
              rw [hset] at h2
              by_cases hki : k = i
              · exact .inr hki
              · rw [if_neg hki] at h2; exact .inl ⟨h1, h2⟩
            · rw [hset]
              rcases hk with ⟨h1, h2⟩ | rfl
              · exact ⟨h1, by split <;> first | rfl | exact h2⟩
              · exact ⟨hin, by simp⟩
        have hσset : i ∉ nw → ∀ k ∈ nw, (listed.setIfInBounds i true).getD k true = true → (σ k).isSome = true := fun hni k hk hkl => by
          rw [hset, if_neg (fun (e : k = i) => hni (e ▸ hk))] at hkl
          exact hσ k hk hkl
        unfold wpOp
        simp only [ho]
        rcases hcase with ⟨hni, hn1⟩ | ⟨hni, hw1, hc1⟩ | ⟨hni, hw1, rfl⟩
        · have hg := g.newPlain i hni o ho
          rw [show Region.wanted o (yielded l.toArray a'.tmps) = true by simp [Region.wanted, hg]]
          refine .inl (hn1.at hsame.1 (by rw [hAi.size, hA.size]) hSw _ _ fun u w'' hSu => ?_)
          refine next (σ.upd i u) u w'' (by rw [hF, if_pos hni, hol]; simp [Sig.upd]) ?_ ?_ hSu
          · have hne : ∀ k, (k < n ∧ listed.getD k true = true) → F (σ.upd i u) k = F σ k := fun k hk => by
              have hki : k ≠ i := fun e => by subst e; rw [hi2] at hk; cases hk.2
              rw [hF, hF]
              simp [Sig.upd, hki]
            exact ⟨hA.defers, hA.size, fun k t u' hk hD' => hA.wrote k t u' hk (by rw [← hne k hk]; exact hD'), fun t ht => hA.kept t fun k u' hk => by rw [← hne k hk]; exact ht k u' hk⟩
          · intro k hk hkl
            by_cases hki : k = i
            · simp [Sig.upd, hki]
            · rw [hset, if_neg hki] at hkl
              simpa [Sig.upd, hki] using hσ k hk hkl
        · rw [hsame.2, hw1]
          exact .inl (hc1.at hsame.1 (by rw [hAi.size, hA.size]) hSw _ _ fun w'' hSu => next σ v w'' (by rw [hF, if_neg hni]; exact hDk i o v hin hni hol hv) hA (hσset hni) hSu)
        · rw [hsame.2, hw1]
          exact next σ undef w' (by rw [hF, if_neg hni]; exact hDk i o undef hin hni hol hv) hA (hσset hni) hSw
  refine main _ listed0 a0 w Sig.no hs0 rfl (fun j hnj hj => ?_) (fun k o hk hkt ho e he hb => ?_) (fun k hk hkt => ?_) hp0 ?_ hS
  · cases hjj : listed0.getD j true with
    | false => rfl
    | true =>
      have := (g.preAny j (hl0 j hj hjj)).1
      omega
  · obtain ⟨_, _, o', ho', _, haf⟩ := g.preAny k (hl0 k hk hkt)
    obtain rfl : o' = o := by simpa [ho] using ho'.symm
    have := g.low k o' (by simpa using ho) e he hb
    rw [← getD_tf (by omega)]
    exact hp0 _ (haf e he hb)
  · exact absurd hk (g.preAny k (hl0 k (by have := g.newLt k hk; omega) hkt)).2.1
  · have step : ∀ (r done : List Nat) (a1 : Act), preOk l.toArray n nw done r = true → PreRun P l r a1 a0 → Agree (F Sig.no) (fun k => k ∈ done) a a1 →
        (∀ k ∈ done, ∀ o, l[k]? = some o → ∀ e ∈ o.after, Region.binds .any e = true → e.on ∈ done) → Agree (F Sig.no) (fun k => k ∈ r ∨ k ∈ done) a a0 := by
      intro r
      induction r with
      | nil =>
        intro done a1 _ hr hA _
        obtain rfl : a0 = a1 := hr
        simpa using hA
      | cons p r ih =>
        intro done a1 hpo hr hA hcl
        obtain ⟨hpn, hpw, hpd, ⟨o, hop, hgd, haf⟩, hpo'⟩ := preOk_cons hpo
        have hop : l[p]? = some o := by simpa using hop
        obtain ⟨o', v, ho', hrun, hr'⟩ := hr
        obtain rfl : o' = o := by simpa [hop] using ho'.symm
        obtain ⟨u, hu, hcase⟩ := hk p o' (by simp [hpn, hop])
        have hAi := agree_frames D huniq a p (by omega)
        have hsame := same_op (ops := l.toArray) (o := o') (a := a1) (a' := frames (D.take p) a) (g.noSel p o' (by simpa using hop)) (by
          intro t htl
          by_cases hts : t < a.tmps.size
          · by_cases hw : ∃ (k : Nat) (u : Value), F Sig.no k = some (some t, u)
            · obtain ⟨k, x, hkx⟩ := hw
              obtain ⟨hkn, ok, hok', hdk⟩ := hFd Sig.no k _ x hkx
              have hnk : k ∉ nw := fun hnk => g.newApart k hnk ok t (by simpa using hok') hdk p o' hpn (by simpa using hop) htl
              have hDu : D[k]? = some (some t, x) := by rw [hF, if_neg hnk] at hkx; exact hkx
              have hkp : k ≠ p := fun e => by
                subst e
                rw [hop] at hok'
                cases hok'
                exact g.own k o' t hkn (by simpa using hop) hdk htl
              rcases (g.pair k p ok o' t hkn hpn hkp (by simpa using hok') (by simpa using hop) hdk).2 with h1 | ⟨hlt, hwt⟩ | ⟨hlt, hwt⟩
              · exact absurd htl h1
              · obtain ⟨e, he, hb, heq⟩ := waits_spec hwt
                have hkd : k ∈ done := heq ▸ haf e he hb
                rw [hA.wrote k t x hkd hkx hts, hAi.wrote k t x hlt hDu hts]
              · obtain ⟨e, he, hb, heq⟩ := waits_spec hwt
                have hkd : k ∉ done := fun hkd => hpd (heq ▸ hcl k hkd ok hok' e he hb)
                rw [hA.kept t fun k' u' hk' hD' => ?_, hAi.kept t fun k' u' hk' hD' => ?_]
                · by_cases hkk : k' = k
                  · subst hkk; omega
                  · exact huniq k k' t u' x hkk hD' hDu
                · by_cases hkk : k' = k
                  · subst hkk; exact hkd hk'
                  · exact hFu Sig.no k k' t u' x hkk hD' hkx
            · rw [hA.kept t fun k v _ hkv => hw ⟨k, v, hkv⟩, hAi.kept t fun k v _ hkv => ?_]
              obtain ⟨_, hnk, _⟩ := hDd k t v hkv
              exact hw ⟨k, v, by rw [hF, if_neg hnk]; exact hkv⟩
          · rw [Array.getElem?_eq_none (show (frames (D.take p) a).tmps.size ≤ t from by rw [hAi.size]; exact Nat.le_of_not_lt hts), Array.getElem?_eq_none (show a1.tmps.size ≤ t from by rw [hA.size]; exact Nat.le_of_not_lt hts)])
        have hput : a1.put o'.dst v = a1.put o'.dst u := by
          rcases hcase with ⟨hni, _⟩ | ⟨_, _, hc1⟩ | ⟨_, hw1, _⟩
          · exact absurd hni hpw
          · have h1 := hc1.at (a' := a1) hsame.1.symm (by rw [hAi.size, hA.size]) hS (fun a2 _ => a2 = a1.put o'.dst u) (fun _ _ _ => False) (fun _ _ => rfl)
            unfold Oper.wp at h1
            rw [hrun w] at h1
            simpa only [Oper.upon] using h1
          · exfalso
            simp [Region.wanted, hgd] at hw1
        rw [hput] at hr'
        have hFp : F Sig.no p = some (o'.dst, u) := by rw [hF, if_neg hpw]; exact hDk p o' u hpn hpw hop hu
        have hA' := hA.put (j := p) hFp (fun k t u' hki hD' e => hFu Sig.no p k t u' u hki hD' (by rw [hFp, e]))
        have hA2 : Agree (F Sig.no) (fun k => k ∈ p :: done) a (a1.put o'.dst u) :=
          ⟨hA'.defers, hA'.size, fun k t x hk => hA'.wrote k t x (by
            rcases List.mem_cons.1 hk with h | h
            · exact .inr h
            · exact .inl h), fun t ht => hA'.kept t fun k x hk => ht k x (by
            rcases hk with h | h
            · exact List.mem_cons_of_mem _ h
            · exact h ▸ List.mem_cons_self ..)⟩
        have := ih (p :: done) _ hpo' hr' hA2 (fun k hk o ho e he hb => by
          rcases List.mem_cons.1 hk with rfl | hk
          · rw [hop] at ho
            cases ho
            exact List.mem_cons_of_mem _ (haf e he hb)
          · exact List.mem_cons_of_mem _ (hcl k hk o ho e he hb))
        refine ⟨this.defers, this.size, fun k t x hk => this.wrote k t x ?_, fun t ht => this.kept t fun k x hk => ht k x ?_⟩
        · rcases hk with hk | hk
          · rcases List.mem_cons.1 hk with rfl | hk
            · exact .inr (List.mem_cons_self ..)
            · exact .inl hk
          · exact .inr (List.mem_cons_of_mem _ hk)
        · rcases hk with hk | hk
          · exact .inl (List.mem_cons_of_mem _ hk)
          · rcases List.mem_cons.1 hk with rfl | hk
            · exact .inl (List.mem_cons_self ..)
            · exact .inr hk
    have h0 : Agree (F Sig.no) (fun k => k ∈ ([] : List Nat)) a a := ⟨rfl, rfl, fun k t v hk _ _ => (by cases hk), fun t _ => rfl⟩
    have := step pre [] a g.preOrd ha0 h0 (fun k hk => by cases hk)
    refine ⟨this.defers, this.size, fun k t x hk => this.wrote k t x (.inl (hl0 k (by omega) hk.2)), fun t ht => this.kept t fun k x hk => ht k x ?_⟩
    rcases hk with hk | hk
    · exact ⟨(g.preAny k hk).1, hp0 k hk⟩
    · cases hk

theorem left_none (n : Nat) : left (Array.replicate n false) = n := by
  unfold left
  rw [List.filter_eq_self.2]
  · simp
  · intro k hk
    have hk : k < n := by simpa using hk
    simp [hk]

theorem wp_region_new {id : Nat} {Q : Exit → Act → World → Prop} {a : Act} {w : World} {l : List Oper} (S : Sig → World → Prop) (n : Nat) (nw : List Nat) (hm : P.follows .mixedOrders = true) (hok : calmOk l.toArray n nw = true) (hS : S Sig.no w.drew)
    (h : calm P l.toArray S nw (fun a' => ∀ σ w', (∀ k ∈ nw, (σ k).isSome = true) → S σ w' → wpList P l.toArray Q (l.drop n) (putNew l nw σ a') w') 0 (l.take n) a) : (Code.region id l.toArray true).wp P Q a w := by
  refine wp_region_any hm ?_
  have hl := left_none l.toArray.size
  have := wpAny_new (a0 := a) S n nw [] hok hS h (Array.replicate l.toArray.size false) (by simp) (fun k hk hkt => by simp [hk] at hkt) (fun p hp => by cases hp) rfl
  rw [hl] at this
  exact this

/-- What is listed when these were taken. -/
def listedBy (n : Nat) (ps : List Nat) : Array Bool := ps.foldl (fun l p => l.setIfInBounds p true) (Array.replicate n false)
theorem foldl_listed (ps : List Nat) : ∀ (L : Array Bool) (k : Nat) (b : Bool), k < L.size → (ps.foldl (fun l p => l.setIfInBounds p true) L).getD k b = (decide (k ∈ ps) || L.getD k b) ∧ (ps.foldl (fun l p => l.setIfInBounds p true) L).size = L.size := by
  induction ps with
  | nil => intro L k b _; simp
  | cons p ps ih =>
    intro L k b hk
    obtain ⟨h1, h2⟩ := ih (L.setIfInBounds p true) k b (by simpa using hk)
    refine ⟨?_, by simpa using h2⟩
    rw [List.foldl_cons, h1]
    by_cases hkp : k = p
    · subst hkp; simp [hk]
    · have : p ≠ k := Ne.symm hkp
      simp [Array.getElem?_setIfInBounds_ne this, hkp]
/-- That each of them is free when it is taken. -/
def freeOk (ops : Array Oper) : List Nat → List Nat → Bool
  | _, [] => true
  | done, p :: r => Region.free .any ops (listedBy ops.size done) p && freeOk ops (done ++ [p]) r

/-- Those of 'pre', which wait for nobody but one another and yield their values in whatever world, need not come ahead of the n-th. -/
theorem wp_region_pres {id : Nat} {Q : Exit → Act → World → Prop} {a a0 : Act} {w : World} {l : List Oper} (S : Sig → World → Prop) (n : Nat) (nw pre : List Nat) (hm : P.follows .mixedOrders = true) (hok : calmOk l.toArray n nw pre = true)
    (hns : Region.noSelect l.toArray = true) (hfr : freeOk l.toArray [] pre = true)
    (hQ : ∀ c a d (u : Value) w, Q (.panic c) (a.put d u) w → Q (.panic c) a w) (ha0 : PreRun P l pre a a0) (hS : S Sig.no w.drew)
    (h : calm P l.toArray S nw (fun a' => ∀ σ w', (∀ k ∈ nw, (σ k).isSome = true) → S σ w' → wpList P l.toArray Q (l.drop n) (putNew l nw σ a') w') 0 (l.take n) a) : (Code.region id l.toArray true).wp P Q a w := by
  refine wp_region_any hm ?_
  have g := good_of hok
  have hl := left_none l.toArray.size
  have hall := foldl_listed pre (Array.replicate l.toArray.size false)
  have hsz : (listedBy l.toArray.size pre).size = l.length := by
    unfold listedBy
    rcases Nat.eq_zero_or_pos l.length with h0 | h0
    · have : ∀ (ps : List Nat) (L : Array Bool), (ps.foldl (fun l p => l.setIfInBounds p true) L).size = L.size := by
        intro ps
        induction ps with
        | nil => intro L; rfl
        | cons p ps ih => intro L; rw [List.foldl_cons, ih]; simp
      rw [this]; simp
    · rw [(hall 0 true (by simpa using h0)).2]; simp
  have key := wpAny_new (a0 := a0) S n nw pre hok hS h (listedBy l.toArray.size pre) hsz
    (fun k hk hkt => by
      unfold listedBy at hkt
      rw [(hall k true (by simpa using hk)).1] at hkt
      simpa [hk] using hkt) (fun p hp => by
      have hpn := (g.preAny p hp).1
      have hle := g.le
      unfold listedBy
      rw [(hall p true (by simp only [Array.size_replicate]; omega)).1]
      simp [hp]) ha0
  have step : ∀ (r done : List Nat) (a1 : Act), preOk l.toArray n nw done.reverse r = true → freeOk l.toArray done r = true → PreRun P l r a1 a0 →
      wpAny P .any l.toArray Q (left (listedBy l.toArray.size (done ++ r))) (listedBy l.toArray.size (done ++ r)) a0 w.drew → wpAny P .any l.toArray Q (left (listedBy l.toArray.size done)) (listedBy l.toArray.size done) a1 w.drew := by
    intro r
    induction r with
    | nil =>
      intro done a1 _ _ hr hw
      obtain rfl : a0 = a1 := hr
      simpa using hw
    | cons p r ih =>
      intro done a1 hpo hfo hr hw
      obtain ⟨hpn, hpw, hpd, ⟨o, hop, hgd, haf⟩, hpo'⟩ := preOk_cons hpo
      obtain ⟨o', v, ho', hrun, hr'⟩ := hr
      obtain rfl : o' = o := by simpa [ho'] using hop
      unfold freeOk at hfo
      rw [Bool.and_eq_true] at hfo
      have hplen : p < l.toArray.size := by have := g.le; omega
      have hd := foldl_listed done (Array.replicate l.toArray.size false)
      have hdsz : (listedBy l.toArray.size done).size = l.toArray.size := by unfold listedBy; rw [(hd p true (by simpa using hplen)).2]; simp
      have hset : (listedBy l.toArray.size done).setIfInBounds p true = listedBy l.toArray.size (done ++ [p]) := by unfold listedBy; rw [List.foldl_append]; rfl
      have hpf : (listedBy l.toArray.size done).getD p true = false := by
        unfold listedBy
        rw [(hd p true (by simpa using hplen)).1]
        have hpd' : p ∉ done := by simpa using hpd
        have hpl2 : p < l.length := by simpa using hplen
        simp [hpd', hpl2]
      have hl2 := left_set (listed := listedBy l.toArray.size done) (j := p) (by omega) hpf
      have hnext := ih (done ++ [p]) _ (by simpa using hpo') hfo.2 hr' (by simpa using hw)
      rw [hset] at hl2
      rw [← hset] at hnext
      have hready : (Region.ready .any l.toArray (listedBy l.toArray.size done)).contains p = true := by
        simp only [List.contains_iff_mem]
        refine mem_ready.2 ⟨by omega, hpf, o', hop, fun e he hb => ?_⟩
        have hon := haf e he hb
        have hlow := g.low p o' hop e he hb
        unfold listedBy
        rw [(hd e.on false (by simp only [Array.size_replicate]; omega)).1]
        simp only [List.mem_reverse] at hon
        simp [hon]
      have hfin := wpAny_take (v := v) (md := .any) hop hns hfo.1 hready (fun c a w h => hQ c _ _ _ w h) (.inl ⟨by simp [Region.wanted, hgd], hrun⟩) hnext
      rw [hl2, ← hset]
      exact hfin
  have := step pre [] a (by simpa using g.preOrd) hfr ha0 (by simpa using key)
  have e0 : listedBy l.toArray.size [] = Array.replicate l.toArray.size false := rfl
  rw [e0, hl] at this
  exact this

/-- Without new ones. -/
theorem wp_region_calm {id : Nat} {Q : Exit → Act → World → Prop} {a : Act} {w : World} {l : List Oper} (S : World → Prop) (n : Nat) (hm : P.follows .mixedOrders = true) (hok : calmOk l.toArray n [] = true) (hS : S w.drew)
    (h : calm P l.toArray (fun _ => S) [] (fun a' => ∀ w', S w' → wpList P l.toArray Q (l.drop n) a' w') 0 (l.take n) a) : (Code.region id l.toArray true).wp P Q a w := by
  refine wp_region_new (fun _ => S) n [] hm hok hS ?_
  have mono : ∀ (R R' : Act → Prop), (∀ a, R a → R' a) → ∀ (m : List Oper) (i : Nat) (a : Act), calm P l.toArray (fun _ => S) [] R i m a → calm P l.toArray (fun _ => S) [] R' i m a := by
    intro R R' hRR m
    induction m with
    | nil => exact fun i a h => hRR a h
    | cons o m ih =>
      intro i a h
      rcases h with ⟨h1, h2, h3⟩ | ⟨h1, h2, v, h3, h4⟩ | ⟨h1, h2, h3⟩
      · exact .inl ⟨h1, h2, ih _ _ h3⟩
      · exact .inr (.inl ⟨h1, h2, v, h3, ih _ _ h4⟩)
      · exact .inr (.inr ⟨h1, h2, ih _ _ h3⟩)
  exact mono _ _ (fun a h _ w' _ hw => h w' hw) _ _ _ h
end
end Go.Proofs.Ytljejkdkjnbmhaa
/- Calm regions over what a call owns: loads, calls, allocs. No program in sight. -/
namespace Go.Proofs.Ytljejkdkjnbmhaa
open Go.RowKit

section
variable {P : Program} {ops : Array Oper} {S : Sig → World → Prop} {nw : List Nat} {R : Act → Prop} {a : Act} {o : Oper} {rest : List Oper} {i : Nat}
theorem calm_value {v : Value} (hi : i ∉ nw) (hw : Region.wanted o (yielded ops a.tmps) = true) (h1 : ∀ σ w, S σ w → (execOp a.eval o).run P w = .ok (.value v) w) (h : calm P ops S nw R (i + 1) rest (a.put o.dst v)) : calm P ops S nw R i (o :: rest) a :=
  calm_step v hi hw (fun σ w hS K Q hK => by unfold Oper.wp; rw [h1 σ w hS]; exact hK w hS) h
theorem calm_call {v : Value} {f : FuncId} {args : Array Value} (hi : i ∉ nw) (hw : Region.wanted o (yielded ops a.tmps) = true) (hr : ∀ w, (execOp a.eval o).run P w = .ok (.enter f args) w)
    (hc : ∀ σ w, S σ w → Calls P f args w fun e w' => e = .returned v ∧ S σ w') (h : calm P ops S nw R (i + 1) rest (a.put o.dst v)) : calm P ops S nw R i (o :: rest) a :=
  calm_step v hi hw (fun σ w hS K Q hK => by
    unfold Oper.wp
    rw [hr w]
    refine (hc σ w hS).mono ?_
    rintro e w' ⟨rfl, hS'⟩
    exact hK w' hS') h
end

/-- What a new variable is. -/
def newP (o : Obj) : Option Value → List Piece
  | none => []
  | some v => [fun h => ∃ g, v = .pointer (some ⟨g, 0, none⟩) ∧ h = [(g, o)]]

theorem Own.skip {w0 w : World} {qs ps : List Piece} (h : Own w0 w (qs ++ ps)) : Own w0 w ps := by
  induction qs with
  | nil => exact h
  | cons q qs ih => exact ih h.drop
section
variable {P : Program} {ops : Array Oper} {nw : List Nat} {R : Act → Prop} {a : Act} {o : Oper} {rest : List Oper} {i : Nat} {w0 : World} {ps : List Piece}
/-- What a new row is. -/
def newR (o : Obj) (n : Nat) : Option Value → List Piece
  | none => []
  | some v => [fun h => ∃ g, v = .slice (some ⟨g, 0, none⟩) n n ∧ h = [(g, o)]]
theorem Own.newr {w0 w : World} {o : Obj} {n : Nat} {v : Value} {ps : List Piece} (h : Own w0 w (newR o n (some v) ++ ps)) : ∃ g, v = .slice (some ⟨g, 0, none⟩) n n ∧ Own w0 w (blk g o :: ps) := by
  obtain ⟨hb, x, ⟨g, hv, hx⟩, r⟩ := h
  exact ⟨g, hv, hb, x, hx, r⟩
theorem calm_row {obj : Obj} {n : Nat} (hi : i ∈ nw) (hr : ∀ w, (execOp a.eval o).run P w = .ok (.value (.slice (some ⟨w.heap.size, 0, none⟩) n n)) (w.alloc obj))
    (h : calm P ops (fun σ w => Own w0 w (newR obj n (σ i) ++ ps)) nw R (i + 1) rest a) : calm P ops (fun σ w => Own w0 w (newR obj n (σ i) ++ ps)) nw R i (o :: rest) a :=
  calm_new hi (fun σ w hS K Q hK => by
    unfold Oper.wp
    rw [hr w]
    refine hK _ _ ?_
    have hs : (σ.upd i (.slice (some ⟨w.heap.size, 0, none⟩) n n)) i = some (.slice (some ⟨w.heap.size, 0, none⟩) n n) := by simp [Sig.upd]
    show Own w0 _ (newR obj n ((σ.upd i _) i) ++ ps)
    rw [hs]
    exact (hS.skip.alloc obj).imp fun x hx => ⟨_, rfl, hx⟩) h
end
end Go.Proofs.Ytljejkdkjnbmhaa
/- The stable sort of slices of coins: the walks of swapRange, rotate. (Written by tools/srt.py.) -/
namespace Go.Proofs.Ytljejkdkjnbmhaa
open Go.RowKit

/-- A coin: its weight; whether it is a pair. -/
structure Coin where
  w : Int
  pair : Bool
deriving DecidableEq, Inhabited
def ce (x : Coin) : List Value := [.int .i64 x.w, .bool x.pair]
def cval (x : Coin) : Value := .agg #[.int .i64 x.w, .bool x.pair]
namespace SC
/-- A slice of them. -/
abbrev Sl (v : Value) (l : List Coin) : Piece := slc 124 2 v l.length (rows ce l)
section
variable {w0 w : World} {ps : List Piece}
end
end SC
end Go.Proofs.Ytljejkdkjnbmhaa
/- huff: package-merge, plainly: sums, rows of coins, what is taken of them, and why nothing costs less. No program in sight. -/
namespace Go.Proofs.Ytljejkdkjnbmhaa

/-! ### sums -/
def sumF {α : Type} (f : α → Int) : List α → Int
  | [] => 0
  | x :: t => f x + sumF f t
section
variable {α β : Type} {f g : α → Int}
theorem sumF_cons (x : α) (t : List α) : sumF f (x :: t) = f x + sumF f t := rfl
theorem sumF_congr {l : List α} (h : ∀ x ∈ l, f x = g x) : sumF f l = sumF g l := by
  induction l with
  | nil => rfl
  | cons x t ih => rw [sumF_cons, sumF_cons, h x (by simp), ih fun y hy => h y (by simp [hy])]
theorem sumF_nonneg {l : List α} (h : ∀ x ∈ l, 0 ≤ f x) : 0 ≤ sumF f l := by
  induction l with
  | nil => exact Int.le_refl _
  | cons x t ih =>
    rw [sumF_cons]
    have := h x (by simp)
    have := ih fun y hy => h y (by simp [hy])
    omega
theorem sumF_const (c : Int) (l : List α) : sumF (fun _ => c) l = l.length * c := by
  induction l with
  | nil => simp [sumF]
  | cons x t ih => rw [sumF_cons, ih, List.length_cons, Int.natCast_add, Int.add_mul]; simp; omega
end
/-! ### the least of a sorted row -/
section
variable {α : Type} {key : α → Int}
end

/-! ### rows -/
def pairsF : List Coin → List Coin
  | a :: b :: t => ⟨a.w + b.w, true⟩ :: pairsF t
  | _ => []
def rowF (base ahead : List Coin) : List Coin := sortF Coin.w (base ++ pairsF ahead)
def rowsF (base : List Coin) : Nat → List Coin
  | 0 => base
  | i + 1 => rowF base (rowsF base i)
/-- How many pairs are among the first so many. -/
def npF (l : List Coin) (n : Nat) : Nat := (l.take n).countP fun c => c.pair
/-- How many singles are taken, row by row, from the last on. -/
def cntF (base : List Coin) : Nat → Nat → List Nat
  | 0, n => [n - npF (rowsF base 0) n]
  | i + 1, n => (n - npF (rowsF base (i + 1)) n) :: cntF base i (2 * npF (rowsF base (i + 1)) n)

/-- What singles are to be. -/
structure Base (base : List Coin) : Prop where
  single : ∀ c ∈ base, c.pair = false
  srt : Srt Coin.w base
  pos : ∀ c ∈ base, 1 ≤ c.w

section
variable {base : List Coin} (hb : Base base)
include hb
omit hb
include hb
end
end Go.Proofs.Ytljejkdkjnbmhaa
/- huff: package-merge, plainly: nothing costs less; the weight is whole. No program in sight. -/
namespace Go.Proofs.Ytljejkdkjnbmhaa

section
variable {base : List Coin} (hb : Base base)
/-- What a choice of singles, row by row, is worth; and what it weighs. -/
def worthF (C : Nat → List Coin) : Nat → Nat
  | 0 => (C 0).length
  | i + 1 => worthF C i + (C (i + 1)).length * 2 ^ (i + 1)
def weighF (C : Nat → List Coin) : Nat → Int
  | 0 => sumF Coin.w (C 0)
  | i + 1 => weighF C i + sumF Coin.w (C (i + 1))
include hb
/-! ### how many are taken -/
omit hb in
def krF : List Nat → Nat
  | [] => 0
  | s :: t => s * 2 ^ t.length + krF t
end

/-! ### lengths by place -/
def addF (s : Nat) (ls : List Nat) : List Nat := (ls.take s).map (· + 1) ++ ls.drop s
def lensF (cs : List Nat) (ls : List Nat) : List Nat := cs.foldl (fun ls s => addF s ls) ls
def kwF (ls : List Nat) : Int := sumF (fun l => (2 : Int) ^ (15 - l)) ls
end Go.Proofs.Ytljejkdkjnbmhaa
/- huff: lengths of frequencies, plainly. No program in sight. -/
namespace Go.Proofs.Ytljejkdkjnbmhaa

/-- A symbol's frequency. -/
def frq (F : List Int) (x : Int) : Int := F.getD x.toNat 0
/-- The symbols in use, of the first k. -/
def usedN (F : List Int) : Nat → List Int
  | 0 => []
  | k + 1 => if 0 < F.getD k 0 then usedN F k ++ [(k : Int)] else usedN F k
def usedF (F : List Int) : List Int := usedN F F.length
def symsF (F : List Int) : List Int := sortF (frq F) (usedF F)
def coinOf (F : List Int) (s : Int) : Coin := ⟨frq F s, false⟩
def baseF (F : List Int) : List Coin := (symsF F).map (coinOf F)
def bump1 (o : List Int) (s : Int) : List Int := o.set s.toNat (o.getD s.toNat 0 + 1)
def bumpF (o : List Int) (l : List Int) : List Int := l.foldl bump1 o
def zerosF (n : Nat) : List Int := List.replicate n 0
def outF (syms : List Int) (cs : List Nat) (o : List Int) : List Int := cs.foldl (fun o c => bumpF o (syms.take c)) o
/-- The lengths. -/
def lengthsF (F : List Int) (L : Nat) : List Int :=
  if (symsF F).length < 2 then bumpF (zerosF F.length) (symsF F)
  else outF (symsF F) (cntF (baseF F) (L - 1) (2 * (symsF F).length - 2)) (zerosF F.length)

section
variable (F : List Int)
end

/-! ### bumps -/
theorem bump1_length (o : List Int) (s : Int) : (bump1 o s).length = o.length := by simp [bump1]
theorem bumpF_length (l : List Int) : ∀ o, (bumpF o l).length = o.length := by
  induction l with
  | nil => intro _; rfl
  | cons s t ih => intro o; show (bumpF (bump1 o s) t).length = _; rw [ih, bump1_length]
theorem bump1_get (o : List Int) (s j : Nat) (hs : s < o.length) : (bump1 o s).getD j 0 = o.getD j 0 + if j = s then 1 else 0 := by
  unfold bump1
  simp only [List.getD_eq_getElem?_getD, Int.toNat_natCast]
  by_cases h : j = s
  · subst h
    rw [List.getElem?_set_self hs, if_pos rfl]
    rfl
  · rw [List.getElem?_set_ne (fun e => h e.symm), if_neg h, Int.add_zero]
theorem bumpF_get (l : List Int) : ∀ (o : List Int) (j : Nat), (∀ x ∈ l, ∃ s : Nat, x = s ∧ s < o.length) → (bumpF o l).getD j 0 = o.getD j 0 + (l.countP fun x => decide (x = (j : Int)) : Nat) := by
  induction l with
  | nil => intro o j _; simp [bumpF]
  | cons x t ih =>
    intro o j h
    obtain ⟨s, rfl, hs⟩ := h x (by simp)
    show (bumpF (bump1 o s) t).getD j 0 = _
    rw [ih _ j (fun x hx => by rw [bump1_length]; exact h x (by simp [hx])), bump1_get o s j hs, List.countP_cons]
    by_cases hj : j = s
    · subst hj; simp; omega
    · have : ¬ ((s : Int) = j) := by omega
      simp [hj, this]
/-- The lengths, and the lengths by place. -/
structure OutRel (F o : List Int) (ls : List Nat) : Prop where
  len : o.length = F.length
  lsl : ls.length = (symsF F).length
  get : ∀ k (h : k < (symsF F).length), o.getD ((symsF F)[k]).toNat 0 = ls.getD k 0
  zero : ∀ j : Nat, (j : Int) ∉ symsF F → o.getD j 0 = 0
/-! ### weights and costs, over symbols -/
def wtF (x : Int) : Int := if 0 < x then 2 ^ (15 - x.toNat) else 0
def costF : List Int → List Int → Int
  | a :: F, b :: l => a * b + costF F l
  | _, _ => 0
section
variable {F : List Int} {L : Nat} (hF : ∀ f ∈ F, 0 ≤ f) (hL : 1 ≤ L ∧ L ≤ 15) (hU : (symsF F).length ≤ 2 ^ L)
include hL hU
end

/-! ### costs -/
end Go.Proofs.Ytljejkdkjnbmhaa
/- huff: plainly, what the walks tell (1). No program in sight. -/
namespace Go.Proofs.Ytljejkdkjnbmhaa
open Go.RowKit

theorem getD_get {F : List Int} {i : Nat} (h : i < F.length) : F[i]? = some (F.getD i 0) := by
  rw [List.getD_eq_getElem?_getD, List.getElem?_eq_getElem h]; rfl
theorem rd_len {w : World} {v : Value} {n : Nat} {F : List Int} (hr : Rd w 1 v n (nums F)) : F.length = n := by have := hr.len; rw [nums_length] at this; omega
def okLen (x : Int) : Bool := decide (0 ≤ x) && decide (x ≤ 15)
/-- May lengths be? -/
def mayF (l : List Int) : Bool := decide (l.length ≤ 320) && l.all okLen
theorem mayF_len {l : List Int} (h : mayF l = true) : l.length ≤ 320 ∧ ∀ x ∈ l, 0 ≤ x ∧ x ≤ 15 := by
  unfold mayF at h
  simp only [Bool.and_eq_true, decide_eq_true_eq, List.all_eq_true, okLen] at h
  exact ⟨h.1, fun x hx => h.2 x hx⟩
theorem all_take_succ {p : Int → Bool} {F : List Int} {i : Nat} (h : i < F.length) : (F.take (i + 1)).all p = ((F.take i).all p && p (F.getD i 0)) := by
  rw [List.take_add_one, getD_get h, List.all_append]
  simp
def badF (f : Int) : Bool := decide (f < 0 ∨ 4294967296 < f)
def anyBad (F : List Int) : Bool := F.any badF
theorem rd_num {w w' : World} {n : Nat} {F : List Int} {v : Value} {ps : List Piece} (hr : Rd w 1 v n (nums F)) (H : Own w w' ps) {i : Nat} (hi : i < F.length) {a : Option Addr} {c : Nat} (hv : v = .slice a n c) : ∃ b o, a = some ⟨b, o, none⟩ ∧ w'.cell? ⟨b, o + i, none⟩ = some (.int .i64 (F.getD i 0)) := by
  subst hv
  obtain ⟨b, o, c', he, _⟩ := hr.some (by rw [nums_length]; omega)
  cases he
  exact ⟨b, o, rfl, (hr.old H).cell (nums_get (by rw [List.getElem?_eq_getElem hi]; simp [List.getD_eq_getElem?_getD, hi]))⟩
/-- An int that is read. -/
theorem rd_at {w w' : World} {n : Nat} {F : List Int} {a : Option Addr} {c : Nat} {ps : List Piece} (hr : Rd w 1 (.slice a n c) n (nums F)) (H : Own w w' ps) {i : Nat} (hi : i < n) : ∃ b o, a = some ⟨b, o, none⟩ ∧ w'.cell? ⟨b, o + i, none⟩ = some (.int .i64 (F.getD i 0)) :=
  rd_num hr H (by have := hr.len; rw [nums_length] at this; omega) rfl
/-- Which error Lengths has; its lengths. -/
def badArg (F : List Int) (L : Int) : Bool := decide (L < 1) || decide (15 < L) || decide (320 < F.length) || anyBad F
def errF (F : List Int) (L : Int) : Int := if badArg F L then 1 else if 2 ^ L.toNat < (usedF F).length then 3 else 0
def resF (F : List Int) (L : Int) : List Int := if errF F L = 0 then lengthsF F L.toNat else []
/-- How many symbols have each length. -/
def countsF (l : List Int) : List Int := (bumpF (zerosF 16) l).set 0 0
theorem bump_bound (l : List Int) : ∀ (o : List Int) (j : Nat) (B : Int), (∀ j, 0 ≤ o.getD j 0 ∧ o.getD j 0 ≤ B) → 0 ≤ (bumpF o l).getD j 0 ∧ (bumpF o l).getD j 0 ≤ B + l.length := by
  induction l with
  | nil => intro o j B h; have := h j; simp [bumpF] at this ⊢; omega
  | cons x t ih =>
    intro o j B h
    have h2 : ∀ j, 0 ≤ (bump1 o x).getD j 0 ∧ (bump1 o x).getD j 0 ≤ B + 1 := by
      intro j
      unfold bump1
      have h1 := h j
      have h3 := h x.toNat
      rw [List.getD_eq_getElem?_getD, List.getElem?_set]
      rw [List.getD_eq_getElem?_getD] at h1
      split
      · split
        · simp; simp at h3; omega
        · simp; have := h 0; omega
      · omega
    have := ih (bump1 o x) j (B + 1) h2
    show 0 ≤ (bumpF (bump1 o x) t).getD j 0 ∧ (bumpF (bump1 o x) t).getD j 0 ≤ _
    rw [List.length_cons]
    omega
theorem zeros_get (n j : Nat) : (zerosF n).getD j 0 = 0 := by
  unfold zerosF
  rw [List.getD_eq_getElem?_getD, List.getElem?_replicate]
  split <;> rfl
/-- How many codes are left, of these counts. -/
def leftL : Int → List Int → Int
  | n, [] => n
  | n, k :: t => if 2 * n - k < 0 then -1 else leftL (2 * n - k) t
def leftF (cs : List Int) : Int := leftL 1 (cs.drop 1)
theorem nums_set (o : List Int) (s : Nat) (x : Int) : (nums o).set s (.int .i64 x) = nums (o.set s x) := by simp [nums, List.map_set]
theorem bump_take {o syms : List Int} {j : Nat} {x : Int} (hx : syms[j]? = some x) : bumpF o (syms.take (j + 1)) = bump1 (bumpF o (syms.take j)) x := by
  unfold bumpF
  rw [List.take_add_one, hx, List.foldl_append]
  rfl
theorem arr_set (cs : List Int) (k : Nat) (v : Int) : (nums cs).toArray.setIfInBounds k (.int .i64 v) = (nums (cs.set k v)).toArray := by
  rw [List.setIfInBounds_toArray, nums_set]
theorem arr_get {cs : List Int} {k : Nat} (h : k < cs.length) : (nums cs).toArray[k]? = some (.int .i64 (cs.getD k 0)) := by
  rw [List.getElem?_toArray]
  exact nums_get (getD_get h)
theorem arr_zero : (nums (zerosF 16)).toArray = #[.int .i64 0, .int .i64 0, .int .i64 0, .int .i64 0, .int .i64 0, .int .i64 0, .int .i64 0, .int .i64 0, .int .i64 0, .int .i64 0, .int .i64 0, .int .i64 0, .int .i64 0, .int .i64 0, .int .i64 0, .int .i64 0] := rfl
theorem nums_one (cs : List Int) : ∀ u ∈ nums cs, u.oneCell' = true := by
  intro u hu
  obtain ⟨x, _, rfl⟩ := List.mem_map.1 hu
  rfl
theorem store_whole (a b : List Value) (h : b.length = a.length) : (a.toArray.toList.take 0 ++ b ++ a.toArray.toList.drop (0 + b.length)).toArray = b.toArray := by
  simp [h]
/-- Which error Codes has; its codes. -/
def cerrF (l : List Int) : Int := if mayF l then (if sumF wtF l ≤ 2 ^ 15 then 0 else 2) else 1
theorem pow_pos_nat (d : Nat) (h : d ≤ 15) : ∃ p : Int, (2 : Int) ^ d = p ∧ 1 ≤ p ∧ p ≤ 32768 := by
  refine ⟨_, rfl, ?_, ?_⟩
  · have : (0 : Int) < 2 ^ d := Int.pow_pos (by omega)
    omega
  · have : (2 : Nat) ^ d ≤ 2 ^ 15 := Nat.pow_le_pow_right (by omega) h
    have h2 : ((2 ^ d : Nat) : Int) ≤ ((2 ^ 15 : Nat) : Int) := Int.ofNat_le.2 this
    simpa using h2
end Go.Proofs.Ytljejkdkjnbmhaa
/- huff: canonical codes, plainly. No program in sight. -/
namespace Go.Proofs.Ytljejkdkjnbmhaa

/-- How many lengths are k. -/
def cntL (l : List Int) (k : Nat) : Nat := l.countP fun x => decide (x = (k : Int))
/-- The first code of a length. -/
def lowT (n : Nat) (x : Int) : Int := if 0 < x ∧ x < n then 2 ^ (n - x.toNat) else 0
def lowF (l : List Int) (n : Nat) : Int := sumF (lowT n) l
/-- As the counts have it: none of length 0. -/
def cntC (l : List Int) (k : Nat) : Int := if k = 0 then 0 else cntL l k
/-- A symbol's code. -/
def codeF (l : List Int) (s : Nat) : Int := if 0 < l.getD s 0 then lowF l (l.getD s 0).toNat + cntL (l.take s) (l.getD s 0).toNat else 0
def codesF (l : List Int) : List Int := (List.range l.length).map (codeF l)
section
variable {l : List Int}
theorem cntL_take_succ {k s : Nat} (h : s < l.length) : cntL (l.take (s + 1)) k = cntL (l.take s) k + if l.getD s 0 = (k : Int) then 1 else 0 := by
  unfold cntL
  rw [List.take_add_one, getD_get h, List.countP_append]
  simp
theorem cntL_le (l : List Int) (k : Nat) : cntL l k ≤ l.length := List.countP_le_length
theorem lowT_nonneg (n : Nat) (x : Int) : 0 ≤ lowT n x := by
  unfold lowT
  split
  · exact Int.le_of_lt (Int.pow_pos (by omega))
  · exact Int.le_refl _
theorem lowF_nonneg (l : List Int) (n : Nat) : 0 ≤ lowF l n := sumF_nonneg fun x _ => lowT_nonneg n x
theorem lowF_zero (l : List Int) : lowF l 0 = 0 := by
  unfold lowF
  rw [sumF_congr (g := fun _ => 0) (fun x _ => by unfold lowT; rw [if_neg]; rintro ⟨h1, h2⟩; have : x < 0 := h2; omega), sumF_const]
  simp
theorem lowF_succ (l : List Int) (n : Nat) : lowF l (n + 1) = 2 * (lowF l n + cntC l n) := by
  have key : ∀ x : Int, lowT (n + 1) x = 2 * (lowT n x + if x = (n : Int) ∧ n ≠ 0 then 1 else 0) := by
    intro x
    unfold lowT
    by_cases h1 : 0 < x ∧ x < n
    · rw [if_pos h1, if_pos ⟨h1.1, by omega⟩, if_neg (by omega), show n + 1 - x.toNat = (n - x.toNat) + 1 by omega, Int.pow_succ]
      omega
    · rw [if_neg h1]
      by_cases h2 : x = (n : Int) ∧ n ≠ 0
      · rw [if_pos h2, if_pos ⟨by omega, by omega⟩]
        have : n + 1 - x.toNat = 1 := by omega
        rw [this]
        rfl
      · rw [if_neg h2, if_neg (by omega)]
        rfl
  unfold lowF
  rw [sumF_congr (fun x _ => key x)]
  clear key
  have h2 : ∀ l : List Int, sumF (fun x => 2 * (lowT n x + if x = (n : Int) ∧ n ≠ 0 then 1 else 0)) l = 2 * (sumF (lowT n) l + cntC l n) := by
    intro l
    induction l with
    | nil => simp [sumF, cntC, cntL]
    | cons x t ih =>
      rw [sumF_cons, ih, sumF_cons]
      unfold cntC cntL
      rw [List.countP_cons]
      by_cases hn : n = 0
      · simp [hn]; omega
      · by_cases hx : x = (n : Int)
        · simp [hn, hx]; omega
        · simp [hn, hx]; omega
  exact h2 l
theorem low_weight (hl : ∀ x ∈ l, 0 ≤ x ∧ x ≤ 15) : lowF l 15 + cntC l 15 = sumF wtF l := by
  have h := lowF_succ l 15
  have key : lowF l 16 = 2 * sumF wtF l := by
    unfold lowF
    clear h
    induction l with
    | nil => rfl
    | cons x t ih =>
      rw [sumF_cons, sumF_cons, ih fun y hy => hl y (by simp [hy])]
      have := hl x (by simp)
      have e : lowT 16 x = 2 * wtF x := by
        unfold lowT wtF
        by_cases hx : 0 < x
        · rw [if_pos ⟨hx, by omega⟩, if_pos hx, show 16 - x.toNat = (15 - x.toNat) + 1 by omega, Int.pow_succ]
          omega
        · rw [if_neg (by omega), if_neg hx]; rfl
      rw [e]
      omega
  have e : lowF l (15 + 1) = lowF l 16 := rfl
  rw [e, key] at h
  omega
theorem cntC_nonneg (l : List Int) (k : Nat) : 0 ≤ cntC l k := by unfold cntC; split <;> omega
/-- What a level takes, further on. -/
theorem low_far (l : List Int) (n : Nat) : ∀ d, 2 ^ (d + 1) * (lowF l n + cntC l n) ≤ lowF l (n + 1 + d) := by
  intro d
  induction d with
  | zero => rw [Nat.add_zero, lowF_succ]; simp
  | succ d ih =>
    rw [← Nat.add_assoc, lowF_succ, Int.pow_succ]
    have := cntC_nonneg l (n + 1 + d)
    have e : (2 : Int) ^ (d + 1) * 2 * (lowF l n + cntC l n) = 2 * (2 ^ (d + 1) * (lowF l n + cntC l n)) := by
      rw [Int.mul_comm (2 ^ (d + 1)) 2, Int.mul_assoc]
    rw [e]
    omega
/-- What is not too great is so on each level. -/
theorem low_room (hl : ∀ x ∈ l, 0 ≤ x ∧ x ≤ 15) (hw : sumF wtF l ≤ 2 ^ 15) (n : Nat) (hn : n ≤ 15) : lowF l n + cntC l n ≤ 2 ^ n := by
  rw [← low_weight hl] at hw
  rcases Nat.lt_or_ge n 15 with h | h
  · have h1 := low_far l n (14 - n)
    have e : n + 1 + (14 - n) = 15 := by omega
    rw [e] at h1
    have h2 := cntC_nonneg l 15
    have h3 : (2 : Int) ^ (14 - n + 1) * (lowF l n + cntC l n) ≤ 2 ^ (14 - n + 1) * 2 ^ n := by
      rw [← Int.pow_add, show 14 - n + 1 + n = 15 by omega]
      omega
    exact Int.le_of_mul_le_mul_left h3 (Int.pow_pos (by omega))
  · have : n = 15 := by omega
    subst this
    exact hw
theorem counts_get (hl : ∀ x ∈ l, 0 ≤ x ∧ x ≤ 15) (k : Nat) (hk : k < 16) : (countsF l).getD k 0 = cntC l k := by
  have hb : (bumpF (zerosF 16) l).length = 16 := by rw [bumpF_length]; simp [zerosF]
  unfold countsF cntC
  rw [List.getD_eq_getElem?_getD, List.getElem?_set]
  by_cases h0 : k = 0
  · subst h0
    rw [if_pos rfl, if_pos rfl, if_pos (by omega)]
    rfl
  · rw [if_neg (fun e => h0 e.symm), if_neg h0, ← List.getD_eq_getElem?_getD, bumpF_get _ _ _ (fun x hx => ⟨x.toNat, by have := hl x hx; omega, by have := hl x hx; simp [zerosF]; omega⟩), zeros_get]
    unfold cntL
    omega
theorem counts_length (l : List Int) : (countsF l).length = 16 := by unfold countsF; rw [List.length_set, bumpF_length]; simp [zerosF]
theorem left_step (l : List Int) (hl : ∀ x ∈ l, 0 ≤ x ∧ x ≤ 15) : ∀ m j, j + m = 15 → lowF l j + cntC l j ≤ 2 ^ j →
    leftL (2 ^ j - (lowF l j + cntC l j)) ((countsF l).drop (1 + j)) = if sumF wtF l ≤ 2 ^ 15 then 2 ^ 15 - sumF wtF l else -1 := by
  intro m
  induction m with
  | zero =>
    intro j hj hle
    have : j = 15 := by omega
    subst this
    rw [List.drop_eq_nil_of_le (by rw [counts_length]; omega), leftL]
    rw [low_weight hl] at hle ⊢
    rw [if_pos hle]
  | succ m ih =>
    intro j hj hle
    have hd : (countsF l).drop (1 + j) = (countsF l).getD (1 + j) 0 :: (countsF l).drop (1 + (j + 1)) := by
      have := counts_length l
      rw [List.drop_eq_getElem_cons (by omega), List.getD_eq_getElem?_getD, List.getElem?_eq_getElem (by omega)]
      rfl
    rw [hd, leftL, counts_get hl _ (by omega)]
    have e : 2 * (2 ^ j - (lowF l j + cntC l j)) - cntC l (1 + j) = 2 ^ (j + 1) - (lowF l (j + 1) + cntC l (j + 1)) := by
      rw [lowF_succ, Int.pow_succ, Nat.add_comm 1 j]
      omega
    rw [e]
    by_cases hneg : 2 ^ (j + 1) - (lowF l (j + 1) + cntC l (j + 1)) < 0
    · rw [if_pos hneg, if_neg]
      intro hw
      have := low_room hl hw (j + 1) (by omega)
      omega
    · rw [if_neg hneg]
      exact ih (j + 1) (by omega) (by omega)
theorem left_law (hl : ∀ x ∈ l, 0 ≤ x ∧ x ≤ 15) : leftF (countsF l) = if sumF wtF l ≤ 2 ^ 15 then 2 ^ 15 - sumF wtF l else -1 := by
  have := left_step l hl 15 0 rfl (by rw [lowF_zero]; simp [cntC])
  rw [lowF_zero] at this
  exact this

/-! ### codes -/
/-! ### the document's sum -/
/-- What stands ahead of a symbol, of the first k, in parts of 2^15. -/
def befT (l : List Int) (s t : Nat) : Int := if 0 < l.getD t 0 ∧ (l.getD t 0 < l.getD s 0 ∨ l.getD t 0 = l.getD s 0 ∧ t < s) then 2 ^ (15 - (l.getD t 0).toNat) else 0
def befN (l : List Int) (s : Nat) : Nat → Int
  | 0 => 0
  | k + 1 => befN l s k + befT l s k
end
end Go.Proofs.Ytljejkdkjnbmhaa
/- append of a string's bytes to a slice of the call's own; bytes made a string. No program in sight. -/
namespace Go.Proofs.Ytljejkdkjnbmhaa
open Go.RowKit Go.Lib

section
variable {w0 w w' : World} {p q : Piece} {ps qs : List Piece} {e : TypeId} {n : Nat} {v : Value} {xs : List Value}
variable {P : Program} {t u ty : TypeId} {i : TypeInfo} {z : Value}

theorem strCells_eq (s : ByteArray) : strCells s = byteCells s := by
  simp [strCells, byteCells]

theorem run_append_str_sep (H : Own w0 w (slc e 1 v n xs :: ps)) (ht : P.underlying t = some (.slice e)) (hu : P.underlying u = some .string) (hi : P.info? e = some i) (hz : i.zero = some z) (hsize : i.size = 1) (hby : i.bytes = 1) (hzs : z.cells.size = 1)
    (s : ByteArray) (h63 : n + s.size ≤ maxLen) (hbytes : n + s.size ≤ 140737488355328) :
    ∃ v' w', (Builtin.append_ #[t, u] ty #[v, .string s]).run P w = .ok v' w' ∧ Own w0 w' (slc e 1 v' (n + s.size) (xs ++ byteCells s) :: ps) := by
  have hsmall : n + s.size ≤ 9223372036854775807 := by simpa [maxLen] using h63
  have hnl := H.slc_len
  rw [Nat.mul_one] at hnl
  have hbl := byteCells_length s
  have hlen : (xs ++ byteCells s).length = (n + s.size) * 1 := by rw [List.length_append, hnl, hbl]; omega
  have src : Src P i.size u (.string s) s.size (byteCells s) w := by rw [hsize]; exact Src.ofString w hu s
  have grown : ∀ (qs : List Piece), Own w0 w qs → ∀ (old : Nat), old < n + s.size →
      Own w0 (w.drew.alloc (.cells ((xs ++ byteCells s).toArray ++ Builtin.zeroCells z.cells (grownCap w (n + s.size) old e - (n + s.size))) e))
        (slc e 1 (.slice (some ⟨w.heap.size, 0, none⟩) (n + s.size) (grownCap w (n + s.size) old e)) (n + s.size) (xs ++ byteCells s) :: qs) := by
    intro qs hqs old ho
    have hge := grownCap_ge w (n + s.size) old e
    have hcm : grownCap w (n + s.size) old e ≤ maxLen := grownCap_le_maxLen w (n + s.size) old e h63
    refine (hqs.drew.alloc _).slc_mk hlen hge hcm ?_ ?_
    · simp only [Array.size_append, List.size_toArray, size_zeroCells, hzs, hlen]
      omega
    · simp only [Array.toList_append]
      rw [← hlen]
      exact List.take_left
  rcases H.slc_cases with ⟨rfl, rfl, rfl, h5⟩ | ⟨g, cap, cur, rfl, _, hc1, hc2, hc3, hc4, h5⟩
  · by_cases h0 : s.size = 0
    · have hb0 : byteCells s = [] := List.eq_nil_of_length_eq_zero (by omega)
      refine ⟨.slice none 0 0, w, ?_, by simpa [h0, hb0] using H⟩
      simp [Builtin.append_, run_underlying ht, run_underlying hu, sizeOf, typeInfo, hi, Builtin.lenOf, h0, Builtin.firstCells]
    · have hr := run_append_grow_src (P := P) w t u ty e i z ht hi hz none 0 0 [] (run_firstCells_none (P := P) w.drew i.size 0 0 0) (.string s) s.size (byteCells s) src (by omega) (by omega) (growslice_fits (by omega) (by rw [hby]; omega))
      exact ⟨_, _, hr, grown _ h5 0 (by omega)⟩
  · by_cases hroom : n + s.size ≤ cap
    · have hr := run_append_room_string (P := P) w t u ty e i ht hu hi hsize g n cap cur h5.block.1 s hroom (by omega)
      refine ⟨_, _, hr, ?_⟩
      have hset : Own w0 (w.setRow g (cur.toList.take n ++ strCells s ++ cur.toList.drop (n + s.size)).toArray) (blk g (.cells (cur.toList.take n ++ strCells s ++ cur.toList.drop (n + s.size)).toArray e) :: ps) := h5.setRow
      refine hset.slc_mk hlen hroom hc2 ?_ ?_
      · simp only [List.size_toArray, List.length_append, List.length_take, List.length_drop, Array.length_toList, strCells_eq, hbl]
        omega
      · rw [Nat.mul_one] at hc4
        rw [hc4, ← hlen, strCells_eq]
        exact List.take_left
    · have holds : ∀ j u, xs[j]? = some u → w.cell? ((⟨g, 0, none⟩ : Addr).add j) = some u := by
        obtain ⟨_, _, _, hv, _, _, _, hcl⟩ := H.rd
        cases hv
        exact hcl _ rfl
      have hfo := run_firstCells_some (P := P) w.drew i.size n ⟨g, 0, none⟩ n cap xs (by rw [hsize]; omega) (by simpa using holds)
      have hr := run_append_grow_src (P := P) w t u ty e i z ht hi hz (some ⟨g, 0, none⟩) n cap xs hfo (.string s) s.size (byteCells s) src (by omega) (by omega) (growslice_fits (by omega) (by rw [hby]; omega))
      exact ⟨_, _, hr, grown _ h5.drop cap (by omega)⟩

/-- 'out = append(out, s...)' in a walk, out the call's own. -/
theorem wpList_append_str {ops : Array Oper} {rest : List Oper} {o : Oper} {a : Act} {Q : Exit → Act → World → Prop} (hgd : o.guard = none) (x y : Operand)
    (ho : o.op = .call { callee := .builtin .append, args := #[x, y], argTypes := #[t, u] })
    (ht : P.underlying t = some (.slice e)) (hu : P.underlying u = some .string) (hinfo : (P.info? e).map (fun i => (i.zero, i.size, i.bytes)) = some (some z, 1, 1)) (hzs : z.cells.size = 1)
    (hs : a.eval x = v) (H : Own w0 w (slc e 1 v n xs :: ps)) {s : ByteArray} (hx : a.eval y = .string s)
    (h63 : n + s.size ≤ 140737488355328)
    (h : ∀ v' w', Own w0 w' (slc e 1 v' (n + s.size) (xs ++ byteCells s) :: ps) → wpList P ops Q rest (a.put o.dst v') w') : wpList P ops Q (o :: rest) a w := by
  obtain ⟨i, hi, hz, hsize, hby⟩ := info_parts hinfo
  refine wpList_plain hgd fun K hK => ?_
  obtain ⟨v', w', hr, h2⟩ := run_append_str_sep (P := P) (ty := o.type) H ht hu hi hz hsize hby hzs s (by simp only [maxLen]; omega) h63
  unfold Oper.wp execOp
  simp only [ho, resolve, invoke, builtin, Sem.run_bind, Sem.run_pure, Result.andThen_ok, List.map_toArray, List.map_cons, List.map_nil, hs, hx, hr]
  exact hK _ _ (h v' w' h2)

/-- bytes made a string -/
theorem run_string_sep (src dst : TypeId) (hs : P.underlying src = some (.slice e)) (he : P.underlying e = some (.int .u8)) (hd : P.underlying dst = some .string) {ns : List Int} (h : Rd w 1 v n (ns.map (.int .u8))) :
    (convert src dst v).run P w = .ok (.string (strOfNums ns)) w := by
  have hl : ns.length = n := by have := h.len; simpa using this
  by_cases h0 : n = 0
  · subst h0
    obtain ⟨a, c, rfl, _, _⟩ := h.shape
    obtain rfl := List.eq_nil_of_length_eq_zero hl
    cases a with
    | none => rw [run_convert_bytes_nil w src e hs he 0 c dst hd]; rfl
    | some ad =>
      rw [run_convert_bytes_string w src dst e _ 0 c hs he hd, run_bytesToString w ad 0 c [] (by simp [loadCells, loadCellsFrom])]
      rfl
  · obtain ⟨b, o, c, rfl, _, _, hc⟩ := h.at (by simp; omega)
    refine run_convert_bytes_arg w src e hs he b o n c ns hl (fun j hj => ?_) dst hd
    exact hc j _ (ints_get _ _ (by omega))
end
end Go.Proofs.Ytljejkdkjnbmhaa
/- Bits: lists of bits, and the bytes that they are. No program in sight. -/
namespace Go.Proofs.Ytljejkdkjnbmhaa

def bi (b : Bool) : Int := if b then 1 else 0
theorem bi_bd (b : Bool) : 0 ≤ bi b ∧ bi b ≤ 1 := by cases b <;> decide
/-- The number that bits are, the lowest first. -/
def valOf : List Bool → Int
  | [] => 0
  | b :: t => bi b + 2 * valOf t
theorem valOf_bd : ∀ l : List Bool, 0 ≤ valOf l ∧ valOf l < 2 ^ l.length
  | [] => by simp [valOf]
  | b :: t => by
    have h := valOf_bd t
    have hb := bi_bd b
    simp only [valOf, List.length_cons, Int.pow_succ]
    omega
theorem valOf_append : ∀ l m : List Bool, valOf (l ++ m) = valOf l + 2 ^ l.length * valOf m
  | [], m => by simp [valOf]
  | b :: t, m => by
    simp only [List.cons_append, valOf, valOf_append t m, List.length_cons, Int.pow_succ]
    rw [Int.mul_add, Int.mul_comm (2 ^ t.length) 2, Int.mul_assoc]
    omega
theorem valOf_snoc (l : List Bool) (b : Bool) : valOf (l ++ [b]) = valOf l + 2 ^ l.length * bi b := by
  rw [valOf_append]; simp [valOf]

theorem pow2_le {a b : Nat} (h : a ≤ b) : (2 : Int) ^ a ≤ 2 ^ b := by
  have := Int.ofNat_le.2 (Nat.pow_le_pow_right (show 0 < 2 by decide) h)
  simpa [Int.natCast_pow] using this
/-- The k-th byte. -/
def byteAt (bs : List Bool) (k : Nat) : Int := valOf ((bs.drop (8 * k)).take 8)
def nbytes (n : Nat) : Nat := (n + 7) / 8
/-- The bytes. -/
def bytesOf (bs : List Bool) : List Int := (List.range (nbytes bs.length)).map (byteAt bs)
/-- Aligned: zeros up to the next byte. -/
def padN (n : Nat) : Nat := (8 - n % 8) % 8
def aligned (bs : List Bool) : List Bool := bs ++ List.replicate (padN bs.length) false
/-! ### numbers -/
def bitOf (v : Int) (i : Nat) : Bool := decide (v / 2 ^ i % 2 = 1)
theorem bi_bitOf (v : Int) (i : Nat) : bi (bitOf v i) = v / 2 ^ i % 2 := by
  unfold bi bitOf
  simp only [decide_eq_true_eq]
  split <;> omega
def bitsOf (v : Int) (n : Nat) : List Bool := (List.range n).map (bitOf v)
theorem bitsOf_length (v : Int) (n : Nat) : (bitsOf v n).length = n := by simp [bitsOf]
theorem bitsOf_succ (v : Int) (n : Nat) : bitsOf v (n + 1) = bitsOf v n ++ [bitOf v n] := by simp [bitsOf, List.range_succ]
theorem valOf_bitsOf (v : Int) : ∀ n : Nat, valOf (bitsOf v n) = v % 2 ^ n
  | 0 => by simp [bitsOf, valOf, Int.emod_one]
  | n + 1 => by
    rw [bitsOf_succ, valOf_snoc, valOf_bitsOf v n, bitsOf_length, bi_bitOf, Int.pow_succ]
    have hp : (0 : Int) < 2 ^ n := Int.pow_pos (by decide)
    obtain ⟨m, hm⟩ : ∃ m : Int, m = 2 ^ n := ⟨_, rfl⟩
    rw [← hm] at hp ⊢
    have h1 := Int.mul_ediv_add_emod v m
    have h2 := Int.mul_ediv_add_emod (v / m) 2
    have h3 : v = m * 2 * (v / m / 2) + (v % m + m * (v / m % 2)) := by
      have e : v / m = 2 * (v / m / 2) + v / m % 2 := by omega
      have e2 : m * (v / m) = m * 2 * (v / m / 2) + m * (v / m % 2) := by
        have := congrArg (m * ·) e
        simp only [Int.mul_add, ← Int.mul_assoc] at this
        exact this
      omega
    have h4 := Int.emod_nonneg v (show m ≠ 0 by omega)
    have h5 := Int.emod_lt_of_pos v hp
    have h6 : 0 ≤ m * (v / m % 2) ∧ m * (v / m % 2) ≤ m := by
      rcases Int.emod_two_eq (v / m) with h | h <;> rw [h] <;> omega
    have h7 : (v % m + m * (v / m % 2)) % (m * 2) = v % m + m * (v / m % 2) := Int.emod_eq_of_lt (by omega) (by
      rcases Int.emod_two_eq (v / m) with h | h <;> rw [h] <;> omega)
    rw [← h7]
    conv => rhs; rw [h3]
    rw [Int.add_comm (m * 2 * _), Int.add_mul_emod_self_left]

end Go.Proofs.Ytljejkdkjnbmhaa
/- huff: tables and decoding, plainly. No program in sight. -/
namespace Go.Proofs.Ytljejkdkjnbmhaa

/-- The symbols of a length, by their numbers. -/
def symsN (l : List Int) (n k : Nat) : List Nat := (List.range k).filter fun s => decide (l.getD s 0 = (n : Int))
def symsL (l : List Int) (n : Nat) : List Nat := symsN l n l.length
/-- A table's symbols, of lengths up to n. -/
def tsymsN (l : List Int) : Nat → List Nat
  | 0 => []
  | n + 1 => tsymsN l n ++ symsL l (n + 1)
def tsymsF (l : List Int) : List Nat := tsymsN l 15

section
variable {l : List Int}
theorem symsN_succ (n k : Nat) : symsN l n (k + 1) = if l.getD k 0 = (n : Int) then symsN l n k ++ [k] else symsN l n k := by
  unfold symsN
  rw [List.range_succ, List.filter_append]
  split
  · next h => rw [List.filter_cons, List.filter_nil, if_pos (decide_eq_true h)]
  · next h => rw [List.filter_cons, List.filter_nil, if_neg (by rw [decide_eq_false h]; simp), List.append_nil]
theorem symsN_length (n : Nat) : ∀ k, k ≤ l.length → (symsN l n k).length = cntL (l.take k) n := by
  intro k
  induction k with
  | zero => intro _; simp [symsN, cntL]
  | succ k ih =>
    intro h
    rw [symsN_succ, cntL_take_succ (by omega), ← ih (by omega)]
    split
    · rw [List.length_append]; rfl
    · rfl
theorem symsL_length (n : Nat) : (symsL l n).length = cntL l n := by
  unfold symsL
  rw [symsN_length n _ (Nat.le_refl _), List.take_length]
/-- Where a symbol stands. -/
theorem symsN_get (n : Nat) : ∀ k, k ≤ l.length → ∀ s, s < k → l.getD s 0 = (n : Int) → (symsN l n k)[cntL (l.take s) n]? = some s := by
  intro k
  induction k with
  | zero => intro _ s h; omega
  | succ k ih =>
    intro hk s hs hn
    rw [symsN_succ]
    rcases Nat.lt_or_ge s k with h | h
    · have h1 := ih (by omega) s h hn
      split
      · rw [List.getElem?_append_left (List.getElem?_eq_some_iff.1 h1).1]; exact h1
      · exact h1
    · have : s = k := by omega
      subst this
      rw [if_pos hn, ← symsN_length n s (by omega), List.getElem?_append_right (Nat.le_refl _)]
      simp
theorem symsN_mem (n k s : Nat) : s ∈ symsN l n k ↔ s < k ∧ l.getD s 0 = (n : Int) := by
  unfold symsN
  rw [List.mem_filter, List.mem_range]
  simp
theorem symsL_at {n s i : Nat} (h : (symsL l n)[i]? = some s) : s < l.length ∧ l.getD s 0 = (n : Int) ∧ cntL (l.take s) n = i := by
  have hm := (symsN_mem (l := l) n l.length s).1 (List.mem_of_getElem? h)
  refine ⟨hm.1, hm.2, ?_⟩
  have h2 := symsN_get n l.length (Nat.le_refl _) s hm.1 hm.2
  have hnd : (symsN l n l.length).Nodup := List.nodup_range.sublist List.filter_sublist
  have h3 : (symsN l n l.length)[i]? = (symsN l n l.length)[cntL (l.take s) n]? := h.trans h2.symm
  exact ((List.getElem?_inj (List.getElem?_eq_some_iff.1 h).1 hnd).1 h3).symm
/-- How many symbols are shorter. -/
def atF (l : List Int) : Nat → Int
  | 0 => 0
  | n + 1 => atF l n + cntC l n
theorem tsymsN_length (n : Nat) : ((tsymsN l n).length : Int) = atF l (n + 1) := by
  induction n with
  | zero => simp [tsymsN, atF, cntC]
  | succ n ih =>
    rw [tsymsN, List.length_append, symsL_length, atF, ← ih]
    unfold cntC
    rw [if_neg (by omega)]
    omega
theorem tsymsN_get {n m i : Nat} (h : n < m) (hi : i < cntL l (n + 1)) : (tsymsN l m)[(tsymsN l n).length + i]? = (symsL l (n + 1))[i]? := by
  induction m with
  | zero => omega
  | succ m ih =>
    rw [tsymsN]
    rcases Nat.lt_or_ge n m with h1 | h1
    · have h2 := ih h1
      have h3 : (symsL l (n + 1))[i]? ≠ none := by
        rw [List.getElem?_eq_getElem (by rw [symsL_length]; exact hi)]; simp
      rw [List.getElem?_append_left, h2]
      rcases Nat.lt_or_ge ((tsymsN l n).length + i) (tsymsN l m).length with h4 | h4
      · exact h4
      · rw [List.getElem?_eq_none h4] at h2
        exact absurd h2.symm h3
    · have : n = m := by omega
      subst this
      rw [List.getElem?_append_right (by omega), Nat.add_sub_cancel_left]
/-- What is decoded: the symbol, the error, how many bits were read. -/
def decN (l : List Int) : Nat → Nat → Int → List Bool → Int × Int × Nat
  | 0, _, _, _ => (0, 2, 0)
  | _ + 1, _, _, [] => (0, 2, 0)
  | f + 1, n, c, b :: t => match (symsL l (n + 1))[(2 * c + bi b - lowF l (n + 1)).toNat]? with
    | some s => (s, 0, 1)
    | none => ((decN l f (n + 1) (2 * c + bi b) t).1, (decN l f (n + 1) (2 * c + bi b) t).2.1, (decN l f (n + 1) (2 * c + bi b) t).2.2 + 1)
def decF (l : List Int) (bs : List Bool) : Int × Int × Nat := decN l 15 0 0 bs
theorem decN_used (f : Nat) : ∀ n c bs, (decN l f n c bs).2.2 ≤ bs.length := by
  induction f with
  | zero => intro n c bs; simp [decN]
  | succ f ih =>
    intro n c bs
    cases bs with
    | nil => simp [decN]
    | cons b t =>
      rw [decN]
      split
      · simp
      · have := ih (n + 1) (2 * c + bi b) t
        simp only [List.length_cons]
        omega
end
end Go.Proofs.Ytljejkdkjnbmhaa
/- Laws on int's bit operations. No program in sight. -/
namespace Go.Proofs.Ytljejkdkjnbmhaa
open Go.RowKit

end Go.Proofs.Ytljejkdkjnbmhaa
/- Laws on int's bit operations, more. No program in sight. -/
namespace Go.Proofs.Ytljejkdkjnbmhaa
open Go.RowKit

/-- One bit more of a number that has i. -/
theorem or64 {v c : Int} {i : Nat} (hi : i ≤ 61) (h0 : 0 ≤ v) (h1 : v < 2 ^ i) (hc0 : 0 ≤ c) (hc1 : c ≤ 1) : bits .or .i64 v (c * 2 ^ i) = v + 2 ^ i * c := by
  have hp : (2 : Int) ^ i ≤ 2305843009213693952 := by
    have h := Nat.pow_le_pow_right (show 0 < 2 by decide) hi
    have e : ((2 ^ i : Nat) : Int) = 2 ^ i := Int.natCast_pow 2 i
    have h2 : ((2 ^ i : Nat) : Int) ≤ ((2 ^ 61 : Nat) : Int) := Int.ofNat_le.2 h
    rw [e] at h2
    exact h2
  have hpn : ((2 ^ i : Nat) : Int) = 2 ^ i := Int.natCast_pow 2 i
  obtain ⟨a, rfl⟩ : ∃ a : Nat, v = a := ⟨v.toNat, by omega⟩
  have ha : a < 2 ^ i := by omega
  have hcc : c = 0 ∨ c = 1 := by omega
  have key : ∀ d : Nat, c = d → d ≤ 1 → IntKind.i64.wrap ((BitVec.ofInt 64 (a : Int) ||| BitVec.ofInt 64 (c * 2 ^ i)).toNat : Int) = a + 2 ^ i * c := by
    intro d hd hd1
    subst hd
    have e1 : ((d : Int) * 2 ^ i) = ((2 ^ i * d : Nat) : Int) := by rw [Int.natCast_mul, hpn, Int.mul_comm]
    have hb : 2 ^ i * d ≤ 2 ^ i := by
      have := Nat.mul_le_mul_left (2 ^ i) hd1
      simpa using this
    rw [e1, BitVec.ofInt_natCast, BitVec.ofInt_natCast, BitVec.toNat_or, BitVec.toNat_ofNat, BitVec.toNat_ofNat, Nat.mod_eq_of_lt (by omega), Nat.mod_eq_of_lt (by omega), Nat.or_comm, ← Nat.two_pow_add_eq_or_of_lt ha d]
    rw [IntKind.wrap_i64]
    have e2 : ((2 ^ i * d + a : Nat) : Int) = a + 2 ^ i * (d : Int) := by rw [Int.natCast_add, Int.natCast_mul, hpn]; omega
    rw [e2, ← hpn, ← Int.natCast_mul]
    omega
  rcases hcc with h | h
  · exact key 0 (by simpa using h) (by omega)
  · exact key 1 (by simpa using h) (by omega)
theorem u8_and1_all : ∀ x : Fin 256, bits .and .u8 (x.1 : Int) 1 = (x.1 : Int) % 2 := by decide +kernel
theorem u8_and1 {x : Int} (h0 : 0 ≤ x) (h1 : x < 256) : bits .and .u8 x 1 = x % 2 := by
  have := u8_and1_all ⟨x.toNat, by omega⟩
  simpa only [Int.toNat_of_nonneg h0] using this
end Go.Proofs.Ytljejkdkjnbmhaa
/- huff: plainly, what the walks tell (2). No program in sight. -/
namespace Go.Proofs.Ytljejkdkjnbmhaa
open Go.RowKit

def cresF (l : List Int) : List Int := if cerrF l = 0 then codesF l else []
/-- Which error New has. -/
def terrF (l : List Int) : Int := if mayF l then (if sumF wtF l = 32768 ∨ (usedF l).length = 0 ∨ (usedF l).length = 1 ∧ sumF wtF l = 16384 then 0 else 2) else 1
def natI (l : List Nat) : List Int := l.map Int.ofNat
def partT (F : List Int) (k j : Nat) : List Nat := tsymsN F k ++ symsN F (k + 1) j
def lenT (l : List Nat) : Nat := l.length
theorem used_count (F : List Int) : ∀ k, k ≤ F.length → (usedN F k).length = (F.take k).countP fun x => decide (0 < x) := by
  intro k
  induction k with
  | zero => intro _; simp [usedN]
  | succ k ih =>
    intro h
    rw [usedN, List.take_add_one, getD_get (by omega), List.countP_append, ← ih (by omega)]
    split
    · next h1 => rw [List.length_append]; simp [List.countP_cons]; simpa using h1
    · next h1 => simp [List.countP_cons]; simpa using h1
theorem at_count (l : List Int) (hl : ∀ x ∈ l, 0 ≤ x) : ∀ n : Nat, atF l n = ((l.countP fun x : Int => decide (0 < x ∧ x < (n : Int)) : Nat) : Int) := by
  intro n
  induction n with
  | zero =>
    rw [atF, List.countP_eq_zero.2 (fun x _ => by simp; omega)]; rfl
  | succ n ih =>
    rw [atF, ih]
    unfold cntC cntL
    clear ih
    induction l with
    | nil => simp
    | cons x t ih =>
      have h1 := ih fun y hy => hl y (by simp [hy])
      have h2 := hl x (by simp)
      rw [List.countP_cons, List.countP_cons, List.countP_cons]
      by_cases hn : n = 0
      · subst hn
        simp only [if_pos] at h1 ⊢
        have e1 : ¬ (0 < x ∧ x < ((0 : Nat) : Int)) := by omega
        have e2 : ¬ (0 < x ∧ x < ((0 + 1 : Nat) : Int)) := by omega
        simp only [e1, e2, decide_false, Bool.false_eq_true, if_false]
        omega
      · rw [if_neg hn] at h1 ⊢
        have d2 : ∀ (p : Prop) [Decidable p], p → (if decide p = true then 1 else 0) = 1 := fun p _ h => by simp [h]
        have d3 : ∀ (p : Prop) [Decidable p], ¬ p → (if decide p = true then 1 else 0) = 0 := fun p _ h => by simp [h]
        by_cases e1 : 0 < x ∧ x < (n : Int)
        · rw [d2 _ e1, d3 (x = (n : Int)) (by omega), d2 (0 < x ∧ x < ((n + 1 : Nat) : Int)) (by omega)]
          omega
        · by_cases e2 : x = (n : Int)
          · rw [d3 _ e1, d2 _ e2, d2 (0 < x ∧ x < ((n + 1 : Nat) : Int)) (by omega)]
            omega
          · rw [d3 _ e1, d3 _ e2, d3 (0 < x ∧ x < ((n + 1 : Nat) : Int)) (by omega)]
            omega
theorem tsyms_used {l : List Int} (hl : ∀ x ∈ l, 0 ≤ x ∧ x ≤ 15) : (tsymsF l).length = (usedF l).length := by
  have h1 := tsymsN_length (l := l) 15
  rw [at_count l (fun x hx => (hl x hx).1)] at h1
  have h2 : (usedF l).length = l.countP fun x => decide (0 < x) := by
    unfold usedF
    rw [used_count l _ (Nat.le_refl _), List.take_length]
  have h3 : (l.countP fun x => decide (0 < x ∧ x < ((15 + 1 : Nat) : Int))) = l.countP fun x => decide (0 < x) := by
    refine List.countP_congr fun x hx => ?_
    have := hl x hx
    simp; omega
  rw [h3] at h1
  show (tsymsN l 15).length = _
  omega
theorem tsyms_len_le {l : List Int} (hl : ∀ x ∈ l, 0 ≤ x) (k : Nat) : (tsymsN l k).length ≤ l.length := by
  have h1 := tsymsN_length (l := l) k
  rw [at_count l hl] at h1
  have := List.countP_le_length (p := fun x : Int => decide (0 < x ∧ x < ((k + 1 : Nat) : Int))) (l := l)
  omega
theorem natI_snoc (l : List Nat) (j : Nat) : nums (natI l) ++ [.int .i64 j] = nums (natI (l ++ [j])) := by simp [nums, natI]
theorem few_weight : ∀ l : List Int, (∀ x ∈ l, 0 ≤ x ∧ x ≤ 15) → ((l.countP fun x => decide (0 < x)) = 0 → sumF wtF l = 0 ∧ cntL l 1 = 0) ∧ ((l.countP fun x => decide (0 < x)) = 1 → sumF wtF l ≤ 16384 ∧ (sumF wtF l = 16384 ↔ cntL l 1 = 1))
  | [], _ => by simp [sumF, cntL]
  | x :: t, hl => by
    have ih := few_weight t fun y hy => hl y (by simp [hy])
    have hx := hl x (by simp)
    rw [sumF_cons]
    unfold cntL at ih ⊢
    rw [List.countP_cons, List.countP_cons]
    by_cases h0 : 0 < x
    · have e0 : decide (0 < x) = true := by simp [h0]
      rw [e0, if_pos rfl]
      refine ⟨fun h => by omega, fun h => ?_⟩
      have h1 := ih.1 (by omega)
      rw [h1.1, h1.2]
      have hw : wtF x = 2 ^ (15 - x.toNat) := by unfold wtF; rw [if_pos h0]
      by_cases hx1 : x = 1
      · subst hx1
        rw [hw]; simp
      · have e1 : decide (x = ((1 : Nat) : Int)) = false := by simp; exact hx1
        rw [e1]
        have h2 : (2 : Int) ^ (15 - x.toNat) ≤ 2 ^ 13 := by
          have : (2 : Nat) ^ (15 - x.toNat) ≤ 2 ^ 13 := Nat.pow_le_pow_right (by omega) (by omega)
          exact_mod_cast this
        rw [hw]
        generalize (2 : Int) ^ (15 - x.toNat) = p at *
        simp
        omega
    · have e0 : decide (0 < x) = false := by simp; omega
      have e1 : decide (x = ((1 : Nat) : Int)) = false := by simp; omega
      have hw : wtF x = 0 := by unfold wtF; rw [if_neg h0]
      rw [e0, e1, hw]
      simpa using ih
/-- A bit put behind. -/
theorem or_low {c b : Int} (h0 : 0 ≤ c) (h1 : c ≤ 1000000000) (hb0 : 0 ≤ b) (hb1 : b ≤ 1) : bits .or .i64 (2 * c) b = 2 * c + b := by
  obtain ⟨m, rfl⟩ : ∃ m : Nat, c = m := ⟨c.toNat, by omega⟩
  obtain ⟨k, rfl⟩ : ∃ k : Nat, b = k := ⟨b.toNat, by omega⟩
  have e : (2 : Int) * (m : Int) = ((2 * m : Nat) : Int) := by omega
  rw [e]
  have h4 : 2 * m ||| k = 2 * m + k := by
    have : k = 0 ∨ k = 1 := by omega
    rcases this with rfl | rfl
    · simp
    · have := Nat.two_pow_add_eq_or_of_lt (i := 1) (b := 1) (by omega) m
      simpa using this.symm
  have key : IntKind.i64.wrap ((BitVec.ofInt 64 ((2 * m : Nat) : Int) ||| BitVec.ofInt 64 (k : Int)).toNat : Int) = ((2 * m : Nat) : Int) + k := by
    rw [BitVec.ofInt_natCast, BitVec.ofInt_natCast, BitVec.toNat_or, BitVec.toNat_ofNat, BitVec.toNat_ofNat, Nat.mod_eq_of_lt (by omega), Nat.mod_eq_of_lt (by omega), h4, IntKind.wrap_i64]
    omega
  exact key
/-- What a table needs. -/
theorem table_ok {l : List Int} (h : terrF l = 0) : l.length ≤ 320 ∧ (∀ x ∈ l, 0 ≤ x ∧ x ≤ 15) ∧ sumF wtF l ≤ 2 ^ 15 := by
  unfold terrF at h
  by_cases hm : mayF l = true
  · rw [if_pos hm] at h
    have := mayF_len hm
    refine ⟨this.1, this.2, ?_⟩
    by_cases hc : sumF wtF l = 32768 ∨ (usedF l).length = 0 ∨ (usedF l).length = 1 ∧ sumF wtF l = 16384
    · rcases hc with h1 | h1 | h1
      · omega
      · have h2 := few_weight l this.2
        unfold usedF at h1
        rw [used_count l _ (Nat.le_refl _), List.take_length] at h1
        have := (h2.1 h1).1
        omega
      · omega
    · rw [if_neg hc] at h; omega
  · rw [if_neg hm] at h; omega
theorem low_le {l : List Int} (hall : ∀ x ∈ l, 0 ≤ x ∧ x ≤ 15) (hw : sumF wtF l ≤ 2 ^ 15) (n : Nat) (hn : n ≤ 16) : 0 ≤ lowF l n ∧ lowF l n ≤ 65536 := by
  refine ⟨lowF_nonneg l n, ?_⟩
  cases n with
  | zero => rw [lowF_zero]; omega
  | succ n =>
    rw [lowF_succ]
    have h1 := low_room hall hw n (by omega)
    obtain ⟨p, hp, h2, h3⟩ := pow_pos_nat n (by omega)
    rw [hp] at h1
    omega
theorem atF_le {l : List Int} (hall : ∀ x ∈ l, 0 ≤ x ∧ x ≤ 15) (n : Nat) : 0 ≤ atF l n ∧ atF l n ≤ l.length := by
  rw [at_count l fun x hx => (hall x hx).1]
  have := List.countP_le_length (p := fun x : Int => decide (0 < x ∧ x < (n : Int))) (l := l)
  omega
/-- What Lengths gives, if it gives. -/
structure LenOk (F : List Int) (L : Int) (R : List Int) : Prop where
  lim : 1 ≤ L ∧ L ≤ 15
  few : F.length ≤ 320
  freq : ∀ f ∈ F, 0 ≤ f ∧ f ≤ 4294967296
  used : (symsF F).length ≤ 2 ^ L.toNat
  res : R = lengthsF F L.toNat
section
variable {F R : List Int} {L : Int} (h : LenOk F L R)
include h
end
end Go.Proofs.Ytljejkdkjnbmhaa
/- huff: what is written by codes is read, plainly. No program in sight. -/
namespace Go.Proofs.Ytljejkdkjnbmhaa

/-- A symbol's code, as bits. -/
def cbits (l : List Int) (s : Nat) : List Bool := (bitsOf (codeF l s) (l.getD s 0).toNat).reverse
section
variable {l : List Int}
/-- All that is written. -/
def allBits (l : List Int) (P : List Nat) : List Bool := P.flatMap (cbits l)
end
end Go.Proofs.Ytljejkdkjnbmhaa
/- flate: symbols of lengths and distances, plainly. No program in sight. -/
namespace Go.Proofs.Ytljejkdkjnbmhaa

/-- How many bits more: the least e with n / 2^e below 2^(st+1). -/
def exN (st n : Nat) : Nat → Nat → Nat
  | 0, e => e
  | f + 1, e => if 2 ^ (st + 1) ≤ n / 2 ^ e then exN st n f (e + 1) else e
def exF (st n : Nat) : Nat := exN st n 64 0
def bandF (st n : Nat) : Nat × Nat × Nat := (exF st n * 2 ^ st + n / 2 ^ exF st n, exF st n, n % 2 ^ exF st n)
def lenSym (n : Nat) : Nat × Nat × Nat := if n = 258 then (285, 0, 0) else if n < 11 then (254 + n, 0, 0) else (257 + (bandF 2 (n - 3)).1, (bandF 2 (n - 3)).2)
def distSym (n : Nat) : Nat × Nat × Nat := if n < 5 then (n - 1, 0, 0) else bandF 1 (n - 1)
/-- The document's tables: the first number of each symbol, how many bits more. -/
def lensT : List (Nat × Nat) := [(3, 0), (4, 0), (5, 0), (6, 0), (7, 0), (8, 0), (9, 0), (10, 0), (11, 1), (13, 1), (15, 1), (17, 1), (19, 2), (23, 2), (27, 2), (31, 2), (35, 3), (43, 3), (51, 3), (59, 3), (67, 4), (83, 4), (99, 4), (115, 4), (131, 5), (163, 5), (195, 5), (227, 5), (258, 0)]
def distsT : List (Nat × Nat) := [(1, 0), (2, 0), (3, 0), (4, 0), (5, 1), (7, 1), (9, 2), (13, 2), (17, 3), (25, 3), (33, 4), (49, 4), (65, 5), (97, 5), (129, 6), (193, 6), (257, 7), (385, 7), (513, 8), (769, 8), (1025, 9), (1537, 9), (2049, 10), (3073, 10), (4097, 11), (6145, 11), (8193, 12), (12289, 12), (16385, 13), (24577, 13)]
/-- The last symbol whose first number is not above. -/
def findT (n : Nat) : List (Nat × Nat) → Nat → Nat × Nat × Nat → Nat × Nat × Nat
  | [], _, r => r
  | (a, k) :: t, i, r => findT n t (i + 1) (if a ≤ n then (i, k, n - a) else r)
def refLen (n : Nat) : Nat × Nat × Nat := findT n lensT 257 (257, 0, 0)
def refDist (n : Nat) : Nat × Nat × Nat := findT n distsT 0 (0, 0, 0)
/-- All of 2^d from a on. -/
def chk (p : Nat → Bool) : Nat → Nat → Bool
  | 0, a => p a
  | d + 1, a => chk p d a && chk p d (a + 2 ^ d)
def distOk (x : Nat) : Bool := decide (distSym (x + 1) = refDist (x + 1))
end Go.Proofs.Ytljejkdkjnbmhaa
/- lz: what stands in a text already. No program in sight. -/
namespace Go.Proofs.Ytljejkdkjnbmhaa

/-- The i-th byte. -/
def byt (s : ByteArray) (i : Nat) : UInt8 := s.data.getD i 0
/-- How many bytes at two places are the same, at most so many. -/
def commN (s : ByteArray) : Nat → Nat → Nat → Nat
  | 0, _, _ => 0
  | f + 1, a, b => if b < s.size ∧ byt s a = byt s b then commN s f (a + 1) (b + 1) + 1 else 0
def comm (s : ByteArray) (a b : Nat) : Nat := commN s 258 a b
/-- The three bytes at a place. -/
def key3 (s : ByteArray) (i : Nat) : UInt8 × UInt8 × UInt8 := (byt s i, byt s (i + 1), byt s (i + 2))
/-- The latest place ahead of the n-th where three bytes stand, and one more; 0: there is none. -/
def prev (s : ByteArray) (k : UInt8 × UInt8 × UInt8) : Nat → Nat
  | 0 => 0
  | n + 1 => if n + 3 ≤ s.size ∧ key3 s n = k then n + 1 else prev s k n
/-- The longest, and how far back it is, of those up to so far back; the nearest of these. -/
def best (s : ByteArray) (at_ : Nat) : Nat → Nat × Nat
  | 0 => (0, 0)
  | d + 1 => if (best s at_ d).1 < comm s (at_ - (d + 1)) at_ then (comm s (at_ - (d + 1)) at_, d + 1) else best s at_ d
/-- What is long enough. -/
def trim (p : Nat × Nat) : Nat × Nat := if 3 ≤ p.1 then p else (0, 0)
/-- What has been looked at, when the next one to look at is p - 1. -/
def seen (s : ByteArray) (at_ p : Nat) : Nat × Nat := trim (best s at_ (min (at_ - p) 4096))
/-- What is found at a place. -/
def found (s : ByteArray) (at_ : Nat) : Nat × Nat := trim (best s at_ (min at_ 4096))
end Go.Proofs.Ytljejkdkjnbmhaa
/- lz: a text's tokens, plainly. -/
namespace Go.Proofs.Ytljejkdkjnbmhaa

structure Tok where
  len : Int
  dist : Int
  lit : Int
deriving DecidableEq
def tcell (t : Tok) : List Value := [.int .i64 t.len, .int .i64 t.dist, .int .i64 t.lit]
def tval (t : Tok) : Value := .agg #[.int .i64 t.len, .int .i64 t.dist, .int .i64 t.lit]
/-- The token at a place. -/
def tokAt (s : ByteArray) (i : Nat) : Tok := if 3 ≤ (found s i).1 then ⟨(found s i).1, (found s i).2, 0⟩ else ⟨0, 0, (byt s i).toNat⟩
def stepAt (s : ByteArray) (i : Nat) : Nat := if 3 ≤ (found s i).1 then (found s i).1 else 1
/-- The tokens from a place on. -/
def parseN (s : ByteArray) : Nat → Nat → List Tok
  | 0, _ => []
  | f + 1, i => if i < s.size then tokAt s i :: parseN s f (i + stepAt s i) else []
def parse (s : ByteArray) : List Tok := parseN s s.size 0
end Go.Proofs.Ytljejkdkjnbmhaa
/- lz: the text of tokens, plainly. -/
namespace Go.Proofs.Ytljejkdkjnbmhaa

/-- May a token stand behind so many bytes? -/
def may (t : Tok) (n : Nat) : Bool :=
  if t.len = 0 then decide (t.dist = 0 ∧ 0 ≤ t.lit ∧ t.lit < 256) else decide (t.lit = 0 ∧ 3 ≤ t.len ∧ t.len ≤ 258 ∧ 1 ≤ t.dist ∧ t.dist ≤ 32768 ∧ t.dist ≤ n)
/-- So many bytes more, each as the one so far back. -/
def copyN (d : Nat) (out : List Int) : Nat → List Int
  | 0 => out
  | k + 1 => copyN d out k ++ [(copyN d out k).getD ((copyN d out k).length - d) 0]
theorem copyN_length (d : Nat) (out : List Int) : ∀ k, (copyN d out k).length = out.length + k := by
  intro k
  induction k with
  | zero => rfl
  | succ k ih => rw [copyN, List.length_append, ih]; simp; omega
inductive Res where
  | err (e : Nat)
  | ok (out : List Int)
/-- The text of tokens, behind some bytes. -/
def exp (most : Int) : List Tok → List Int → Res
  | [], out => .ok out
  | t :: l, out =>
    if may t out.length = false then .err 2
    else if IntKind.i64.wrap (most - out.length) < max t.len 1 then .err 12
    else if t.len = 0 then exp most l (out ++ [t.lit])
    else exp most l (copyN t.dist.toNat out t.len.toNat)
end Go.Proofs.Ytljejkdkjnbmhaa
/- inflate: unpacking, plainly. No program in sight. -/
namespace Go.Proofs.Ytljejkdkjnbmhaa

/-- What a part of unpacking yields: a value, and where the next bit stands; the bits ran out; a fault. -/
inductive Got (α : Type) where
  | ok (v : α) (n : Nat)
  | ran
  | bad (e : Int)
def Got.bind {α β : Type} (g : Got α) (f : α → Nat → Got β) : Got β := match g with
  | .ok v n => f v n
  | .ran => .ran
  | .bad e => .bad e
theorem Got.bind_ok {α β : Type} (v : α) (n : Nat) (f : α → Nat → Got β) : (Got.ok v n).bind f = f v n := rfl
theorem Got.bind_ran {α β : Type} (f : α → Nat → Got β) : (Got.ran : Got α).bind f = .ran := rfl
theorem Got.bind_inv {α β : Type} {g : Got α} {f : α → Nat → Got β} {w : β} {m : Nat} (h : g.bind f = .ok w m) : ∃ v n, g = .ok v n ∧ f v n = .ok w m := by
  cases g with
  | ok v n => exact ⟨v, n, rfl, h⟩
  | ran => cases h
  | bad e => cases h

def takeG (bs : List Bool) (k n : Nat) : Got Int := if n + k ≤ bs.length then .ok (valOf ((bs.drop n).take k)) (n + k) else .ran
def symG (bs : List Bool) (L : List Int) (n : Nat) : Got Int :=
  if (decF L (bs.drop n)).2.1 = 0 then .ok (decF L (bs.drop n)).1 (n + (decF L (bs.drop n)).2.2)
  else if (decF L (bs.drop n)).2.2 < 15 then .ran else .bad 2
/-- A block of bytes. -/
def bytesAt (bs : List Bool) (n k : Nat) : List Int := bytesOf ((bs.drop n).take (8 * k))
def storedG (bs : List Bool) (most : Int) (out : List Int) (n0 : Nat) : Got (List Int) :=
  (takeG bs 16 (8 * nbytes n0)).bind fun a n1 => (takeG bs 16 n1).bind fun b n2 =>
    if a + b = 65535 then
      (if n2 + 8 * a.toNat ≤ bs.length then (if most - out.length < a then .bad 12 else .ok (out ++ bytesAt bs n2 a.toNat) (n2 + 8 * a.toNat)) else .ran)
    else .bad 2
/-- Lengths of lengths' codes, as they stand; as they are meant. -/
def lensG (bs : List Bool) : Nat → List Int → Nat → Got (List Int)
  | 0, xs, n => .ok xs n
  | k + 1, xs, n => (takeG bs 3 n).bind fun v n1 => lensG bs k (xs ++ [v]) n1
def ordN (i : Nat) : Nat := [16, 17, 18, 0, 8, 7, 9, 6, 10, 5, 11, 4, 12, 3, 13, 2, 14, 1, 15].getD i 0
def unordN (xs : List Int) : Nat → List Int
  | 0 => zerosF 19
  | k + 1 => (unordN xs k).set (ordN k) (xs.getD k 0)
def unordF (xs : List Int) : List Int := unordN xs 19
/-- Lengths of codes, up to N. -/
def lengthsG (bs : List Bool) (T : List Int) (N : Nat) (l : List Int) (n : Nat) : Got (List Int) :=
  if h : N ≤ l.length then .ok l n
  else (symG bs T n).bind fun c n1 =>
    if c < 16 then lengthsG bs T N (l ++ [c]) n1
    else if c = 16 then
      (if l.length = 0 then .bad 2
       else (takeG bs 2 n1).bind fun v n2 => if N < l.length + (3 + v.toNat) then .bad 2 else lengthsG bs T N (l ++ List.replicate (3 + v.toNat) (l.getD (l.length - 1) 0)) n2)
    else if c = 17 then (takeG bs 3 n1).bind fun v n2 => if N < l.length + (3 + v.toNat) then .bad 2 else lengthsG bs T N (l ++ List.replicate (3 + v.toNat) 0) n2
    else (takeG bs 7 n1).bind fun v n2 => if N < l.length + (11 + v.toNat) then .bad 2 else lengthsG bs T N (l ++ List.replicate (11 + v.toNat) 0) n2
termination_by N - l.length
decreasing_by all_goals (simp only [List.length_append, List.length_cons, List.length_nil, List.length_replicate]; omega)
/-- Both codes of a block that tells them. -/
def codesG (bs : List Bool) (n0 : Nat) : Got (List Int × List Int) :=
  (takeG bs 5 n0).bind fun a n1 => (takeG bs 5 n1).bind fun b n2 => (takeG bs 4 n2).bind fun c n3 =>
    if 29 < a ∨ 29 < b then .bad 2
    else (lensG bs (4 + c.toNat) [] n3).bind fun xs n4 =>
      if terrF (unordF xs) = 0 then
        (lengthsG bs (unordF xs) (257 + a.toNat + (1 + b.toNat)) [] n4).bind fun l n5 =>
          if l.getD 256 0 ≠ 0 ∧ terrF (l.take (257 + a.toNat)) = 0 ∧ terrF (l.drop (257 + a.toNat)) = 0 then .ok (l.take (257 + a.toNat), l.drop (257 + a.toNat)) n5 else .bad 2
      else .bad 2
def lenT0 (c : Nat) : Nat × Nat := lensT.getD (c - 257) (0, 0)
def distT0 (c : Nat) : Nat × Nat := distsT.getD c (0, 0)
/-- A token, or a block's end. -/
def tokG (bs : List Bool) (most : Int) (L D : List Int) (out : List Int) (n0 : Nat) : Got (Option (List Int)) :=
  (symG bs L n0).bind fun c n1 =>
    if c = 256 then .ok none n1
    else if c < 256 then (if most - out.length < 1 then .bad 12 else .ok (some (out ++ [c])) n1)
    else if 285 < c then .bad 2
    else (takeG bs (lenT0 c.toNat).2 n1).bind fun v n2 => (symG bs D n2).bind fun k n3 =>
      if 29 < k then .bad 2
      else (takeG bs (distT0 k.toNat).2 n3).bind fun u n4 =>
        if (out.length : Int) < (distT0 k.toNat).1 + u then .bad 2
        else if most - out.length < (lenT0 c.toNat).1 + v then .bad 12
        else .ok (some (copyN ((distT0 k.toNat).1 + u.toNat) out ((lenT0 c.toNat).1 + v.toNat))) n4

/-- Where unpacking stands: the next bit, what there is, the codes of the block it is in, whether that is the last. -/
structure Inf where
  n : Nat
  out : List Int
  tab : Option (List Int × List Int)
  last : Bool
def fixTab : List Int × List Int := (List.replicate 144 8 ++ List.replicate 112 9 ++ List.replicate 24 7 ++ List.replicate 8 8, List.replicate 32 5)
def headG (bs : List Bool) (most : Int) (st : Inf) : Got Inf :=
  (takeG bs 1 st.n).bind fun a n1 => (takeG bs 2 n1).bind fun k n2 =>
    if k = 0 then (storedG bs most st.out n2).bind fun o n3 => .ok ⟨n3, o, none, decide (a = 1)⟩ n3
    else if k = 1 then .ok ⟨n2, st.out, some fixTab, decide (a = 1)⟩ n2
    else if k = 2 then (codesG bs n2).bind fun t n3 => .ok ⟨n3, st.out, some t, decide (a = 1)⟩ n3
    else .bad 2
def stepG (bs : List Bool) (most : Int) (st : Inf) : Got Inf := match st.tab with
  | none => headG bs most st
  | some t => (tokG bs most t.1 t.2 st.out st.n).bind fun r n1 => match r with
    | none => .ok ⟨n1, st.out, none, st.last⟩ n1
    | some o => .ok ⟨n1, o, some t, st.last⟩ n1
def Inf.done (st : Inf) : Bool := st.last && st.tab.isNone
def Inf.init : Inf := ⟨0, [], none, false⟩
/-- The end: what there is, and where the next bit stands; or a fault (2: also where the bits ran out). -/
inductive Fin' where
  | ok (out : List Int) (n : Nat)
  | err (e : Int)
  | more
def runG (bs : List Bool) (most : Int) : Nat → Inf → Fin'
  | 0, _ => .more
  | f + 1, st => if st.done then .ok st.out st.n else match stepG bs most st with
    | .ok st' _ => runG bs most f st'
    | .ran => .err 2
    | .bad e => .err e

/-! ### where the next bit stands -/
structure Goes {α : Type} (bs : List Bool) (F : Got α) (n d : Nat) : Prop where
  le : ∀ v m, F = .ok v m → n + d ≤ m ∧ m ≤ bs.length
theorem Goes.zero {α : Type} {bs : List Bool} {F : Got α} {n d : Nat} (h : Goes bs F n d) : Goes bs F n 0 := ⟨fun v m e => by have := h.le v m e; omega⟩
theorem goes_take (bs : List Bool) (k n : Nat) : Goes bs (takeG bs k n) n k := ⟨fun v m h => by
  unfold takeG at h
  split at h
  · cases h; omega
  · cases h⟩
theorem goes_bind {α β : Type} {bs : List Bool} {g : Got α} {f : α → Nat → Got β} {n d : Nat} (h1 : Goes bs g n d) (h2 : ∀ v m, n ≤ m → m ≤ bs.length → Goes bs (f v m) m 0) : Goes bs (g.bind f) n d := ⟨fun w m h => by
  obtain ⟨v, k, hg, hf⟩ := Got.bind_inv h
  have e1 := h1.le v k hg
  have e2 := (h2 v k (by omega) e1.2).le w m hf
  omega⟩
theorem goes_ok {α : Type} {bs : List Bool} {v : α} {n : Nat} (h : n ≤ bs.length) : Goes bs (.ok v n) n 0 := ⟨fun v m e => by cases e; omega⟩
theorem goes_bad {α : Type} {bs : List Bool} {e : Int} {n d : Nat} : Goes bs (.bad e : Got α) n d := ⟨fun v m e => by cases e⟩
theorem goes_ran {α : Type} {bs : List Bool} {n d : Nat} : Goes bs (.ran : Got α) n d := ⟨fun v m e => by cases e⟩
theorem goes_ite {α : Type} {bs : List Bool} {c : Prop} [Decidable c] {a b : Got α} {n d : Nat} (h1 : c → Goes bs a n d) (h2 : ¬ c → Goes bs b n d) : Goes bs (if c then a else b) n d := by
  split
  · next h => exact h1 h
  · next h => exact h2 h
theorem decN_pos (l : List Int) (f : Nat) : ∀ n c bs, (decN l f n c bs).2.1 = 0 → 1 ≤ (decN l f n c bs).2.2 := by
  cases f with
  | zero => intro n c bs h; simp [decN] at h
  | succ f =>
    intro n c bs
    cases bs with
    | nil => intro h; simp [decN] at h
    | cons b t =>
      rw [decN]
      split
      · intro _; simp
      · intro _; simp
theorem goes_sym (bs : List Bool) (L : List Int) (n : Nat) (hn : n ≤ bs.length) : Goes bs (symG bs L n) n 1 := ⟨fun v m h => by
  unfold symG at h
  split at h
  · next h0 =>
    cases h
    have h1 := decN_pos L 15 0 0 _ h0
    have h2 := decN_used (l := L) 15 0 0 (bs.drop n)
    rw [List.length_drop] at h2
    unfold decF
    omega
  · split at h <;> cases h⟩
theorem goes_stored (bs : List Bool) (most : Int) (out : List Int) (n : Nat) : Goes bs (storedG bs most out n) n 0 := by
  have h : Goes bs (storedG bs most out n) (8 * nbytes n) 0 := by
    refine (goes_bind (goes_take bs 16 _) fun a n1 _ _ => (goes_bind (goes_take bs 16 n1) fun b n2 _ _ => ?_).zero).zero
    refine goes_ite (fun _ => goes_ite (fun h => goes_ite (fun _ => goes_bad) fun _ => ?_) fun _ => goes_ran) fun _ => goes_bad
    exact ⟨fun v m e => by cases e; omega⟩
  exact ⟨fun v m e => by have := h.le v m e; unfold nbytes at this; omega⟩
theorem goes_lens (bs : List Bool) : ∀ k xs n, n ≤ bs.length → Goes bs (lensG bs k xs n) n 0 := by
  intro k
  induction k with
  | zero => intro xs n hn; exact goes_ok hn
  | succ k ih => intro xs n hn; exact (goes_bind (goes_take bs 3 n) fun v m _ hm => ih _ m hm).zero
theorem goes_lengths (bs : List Bool) (T : List Int) (N : Nat) : ∀ d l n, N - l.length ≤ d → n ≤ bs.length → Goes bs (lengthsG bs T N l n) n 0 := by
  intro d
  induction d with
  | zero => intro l n hd hn; rw [lengthsG, dif_pos (by omega)]; exact goes_ok hn
  | succ d ih =>
    intro l n hd hn
    rw [lengthsG]
    split
    · exact goes_ok hn
    · next hN =>
      refine (goes_bind (goes_sym bs T n hn) fun c n1 _ h1 => ?_).zero
      refine goes_ite (fun _ => ih _ _ (by simp; omega) h1) fun _ => goes_ite (fun _ => goes_ite (fun _ => goes_bad) fun _ => ?_) fun _ => goes_ite (fun _ => ?_) fun _ => ?_
      all_goals exact (goes_bind (goes_take bs _ n1) fun v m _ hm => goes_ite (fun _ => goes_bad) fun _ => ih _ m (by simp; omega) hm).zero
theorem goes_codes (bs : List Bool) (n : Nat) : Goes bs (codesG bs n) n 0 := by
  refine (goes_bind (goes_take bs 5 n) fun a n1 _ _ => (goes_bind (goes_take bs 5 n1) fun b n2 _ _ => (goes_bind (goes_take bs 4 n2) fun c n3 _ h3 => ?_).zero).zero).zero
  refine goes_ite (fun _ => goes_bad) fun _ => goes_bind (goes_lens bs _ _ n3 h3) fun xs n4 _ h4 => goes_ite (fun _ => ?_) fun _ => goes_bad
  exact goes_bind (goes_lengths bs _ _ _ _ n4 (Nat.le_refl _) h4) fun l n5 _ h5 => goes_ite (fun _ => goes_ok h5) fun _ => goes_bad
theorem goes_tok (bs : List Bool) (most : Int) (L D out : List Int) (n : Nat) (hn : n ≤ bs.length) : Goes bs (tokG bs most L D out n) n 1 := by
  refine goes_bind (goes_sym bs L n hn) fun c n1 _ h1 => goes_ite (fun _ => goes_ok h1) fun _ => goes_ite (fun _ => goes_ite (fun _ => goes_bad) fun _ => goes_ok h1) fun _ => goes_ite (fun _ => goes_bad) fun _ => ?_
  refine (goes_bind (goes_take bs _ n1) fun v n2 _ h2 => (goes_bind (goes_sym bs D n2 h2) fun k n3 _ h3 => goes_ite (fun _ => goes_bad) fun _ => (goes_bind (goes_take bs _ n3) fun u n4 _ h4 => ?_).zero).zero).zero
  exact goes_ite (fun _ => goes_bad) fun _ => goes_ite (fun _ => goes_bad) fun _ => goes_ok h4
theorem goes_head (bs : List Bool) (most : Int) (st : Inf) : Goes bs (headG bs most st) st.n 1 := by
  refine goes_bind (goes_take bs 1 st.n) fun a n1 _ h1 => (goes_bind (goes_take bs 2 n1) fun k n2 _ h2 => ?_).zero
  refine goes_ite (fun _ => goes_bind (goes_stored bs most st.out n2) fun o n3 _ h3 => goes_ok h3) fun _ => goes_ite (fun _ => goes_ok h2) fun _ => goes_ite (fun _ => goes_bind (goes_codes bs n2) fun o n3 _ h3 => goes_ok h3) fun _ => goes_bad
theorem step_n {bs : List Bool} {most : Int} {st st' : Inf} {m : Nat} (h : stepG bs most st = .ok st' m) : st'.n = m := by
  unfold stepG at h
  cases ht : st.tab with
  | none =>
    rw [ht] at h
    simp only at h
    unfold headG at h
    obtain ⟨a, n1, _, h⟩ := Got.bind_inv h
    obtain ⟨k, n2, _, h⟩ := Got.bind_inv h
    split at h
    · obtain ⟨o, n3, _, h⟩ := Got.bind_inv h; cases h; rfl
    · split at h
      · cases h; rfl
      · split at h
        · obtain ⟨o, n3, _, h⟩ := Got.bind_inv h; cases h; rfl
        · cases h
  | some t =>
    rw [ht] at h
    simp only at h
    obtain ⟨r, n1, _, h⟩ := Got.bind_inv h
    cases r with
    | none => cases h; rfl
    | some o => cases h; rfl
/-- Each step takes a bit. -/
theorem step_goes {bs : List Bool} {most : Int} {st st' : Inf} {m : Nat} (hn : st.n ≤ bs.length) (h : stepG bs most st = .ok st' m) : st.n < st'.n ∧ st'.n ≤ bs.length := by
  have e := step_n h
  unfold stepG at h
  cases ht : st.tab with
  | none =>
    rw [ht] at h
    have := (goes_head bs most st).le _ _ h
    omega
  | some t =>
    rw [ht] at h
    have hg : Goes bs ((tokG bs most t.1 t.2 st.out st.n).bind fun r n1 => match r with
      | none => .ok (⟨n1, st.out, none, st.last⟩ : Inf) n1
      | some o => .ok ⟨n1, o, some t, st.last⟩ n1) st.n 1 := goes_bind (goes_tok bs most t.1 t.2 st.out st.n hn) fun r n1 _ h1 => by
        cases r with
        | none => exact goes_ok h1
        | some o => exact goes_ok h1
    have := hg.le _ _ h
    omega
def inflF (bs : List Bool) (most : Int) : Fin' := runG bs most (bs.length + 1) Inf.init
/-! ### many steps -/
inductive Steps (bs : List Bool) (most : Int) : Inf → Inf → Prop where
  | refl (st : Inf) : Steps bs most st st
  | step {a b c : Inf} {m : Nat} : a.done = false → stepG bs most a = .ok b m → Steps bs most b c → Steps bs most a c
theorem Steps.trans {bs : List Bool} {most : Int} {a b c : Inf} (h1 : Steps bs most a b) (h2 : Steps bs most b c) : Steps bs most a c := by
  induction h1 with
  | refl => exact h2
  | step hd hs _ ih => exact .step hd hs (ih h2)
end Go.Proofs.Ytljejkdkjnbmhaa
/- What an int, a byte, a string are to the program. -/
namespace Go.Proofs.Ytljejkdkjnbmhaa
open Go.RowKit

theorem intInfo : (Try.prog.info? 3).map (fun i => (i.zero, i.size, i.bytes)) = some (some (.int .i64 0), 1, 8) := by kernel_rfl
theorem u8Info : (Try.prog.info? 5).map (fun i => (i.zero, i.size, i.bytes)) = some (some (.int .u8 0), 1, 1) := by kernel_rfl
end Go.Proofs.Ytljejkdkjnbmhaa
/- Bits: the writer's state; bit. (Picked out of others by tools/pick.py, as are all XBw, XBr.) -/
namespace Go.Proofs.Ytljejkdkjnbmhaa
open Go.RowKit

def u8s (xs : List Int) : List Value := xs.map (.int .u8)
/-- A writer of these bits, behind the pointer ⟨g, 0⟩. -/
def Wtr (g : Nat) (bs : List Bool) : Piece := ex fun v => star (blk g (.cells #[v, .int .i64 bs.length] 50)) (slc 5 1 v (nbytes bs.length) (u8s (bytesOf bs)))
end Go.Proofs.Ytljejkdkjnbmhaa
/- Bits: bytes as bits, plainly. No program in sight. -/
namespace Go.Proofs.Ytljejkdkjnbmhaa
open Go.RowKit

def cut (n : Int) : Nat := (min (max n 0) 62).toNat
def byteNums (s : ByteArray) : List Int := s.data.toList.map fun b => (b.toNat : Int)
theorem byteCells_nums (s : ByteArray) : byteCells s = u8s (byteNums s) := by simp [byteCells, u8s, byteNums]
theorem byteNums_length (s : ByteArray) : (byteNums s).length = s.size := by simp [byteNums]
theorem byteNums_bd (s : ByteArray) : ∀ x ∈ byteNums s, 0 ≤ x ∧ x < 256 := by
  intro x hx
  obtain ⟨b, _, rfl⟩ := List.mem_map.1 hx
  have := b.toNat_lt
  omega
/-- Bits of bytes. -/
def bitsOfNums (ns : List Int) : List Bool := ns.flatMap (bitsOf · 8)
theorem bitsOfNums_length (ns : List Int) : (bitsOfNums ns).length = 8 * ns.length := by
  induction ns with
  | nil => rfl
  | cons n ns ih =>
    simp only [bitsOfNums, List.flatMap_cons, List.length_append, bitsOf_length, List.length_cons] at ih ⊢
    omega
theorem byteAt_append' (bs cs : List Bool) (h : bs.length % 8 = 0) (k : Nat) : byteAt (bs ++ cs) (bs.length / 8 + k) = byteAt cs k := by
  unfold byteAt
  rw [List.drop_append, List.drop_eq_nil_of_le (by omega), List.nil_append]
  congr 3
  omega
/-- A whole byte in front. -/
theorem bytesOf_byte (b8 cs : List Bool) (h : b8.length = 8) : bytesOf (b8 ++ cs) = valOf b8 :: bytesOf cs := by
  unfold bytesOf
  rw [show nbytes (b8 ++ cs).length = nbytes cs.length + 1 by simp [nbytes]; omega, List.range_succ_eq_map, List.map_cons, List.map_map]
  congr 1
  · unfold byteAt
    simp [List.take_append_of_le_length (show 8 ≤ b8.length by omega), List.take_of_length_le (show b8.length ≤ 8 by omega)]
  · refine List.map_congr_left fun k _ => ?_
    have := byteAt_append' b8 cs (by omega) k
    rw [show b8.length / 8 = 1 by omega] at this
    show byteAt _ (k + 1) = _
    rw [Nat.add_comm]
    exact this
theorem bytesOf_nums (ns : List Int) (hb : ∀ x ∈ ns, 0 ≤ x ∧ x < 256) : bytesOf (bitsOfNums ns) = ns := by
  induction ns with
  | nil => rfl
  | cons n ns ih =>
    show bytesOf (bitsOf n 8 ++ bitsOfNums ns) = _
    rw [bytesOf_byte _ _ (bitsOf_length n 8), ih fun x hx => hb x (List.mem_cons_of_mem _ hx), valOf_bitsOf]
    have := hb n List.mem_cons_self
    congr 1
    omega
/-- What Text puts. -/
def textBits (s : ByteArray) : List Bool := bitsOfNums (byteNums s)
theorem textBits_length (s : ByteArray) : (textBits s).length = 8 * s.size := by rw [textBits, bitsOfNums_length, byteNums_length]
/-- The text that bits are. -/
def textOf (bs : List Bool) : ByteArray := strOfNums (bytesOf bs)
theorem bitsOfNums_get (ns : List Int) : ∀ (q r : Nat), r < 8 → (bitsOfNums ns)[8 * q + r]? = (ns[q]?).map (bitOf · r) := by
  induction ns with
  | nil => intro q r _; simp [bitsOfNums]
  | cons n ns ih =>
    intro q r hr
    show (bitsOf n 8 ++ bitsOfNums ns)[8 * q + r]? = _
    cases q with
    | zero =>
      rw [List.getElem?_append_left (by rw [bitsOf_length]; omega)]
      simp [bitsOf, hr]
    | succ q =>
      rw [List.getElem?_append_right (by rw [bitsOf_length]; omega), bitsOf_length, show 8 * (q + 1) + r - 8 = 8 * q + r by omega, ih q r hr]
      rfl
theorem textBits_get (s : ByteArray) {q r : Nat} (hq : q < s.size) (hr : r < 8) : (textBits s)[8 * q + r]? = some (bitOf ((s[q].toNat : Nat) : Int) r) := by
  have h : (byteNums s)[q]? = some ((s[q].toNat : Nat) : Int) := by
    have : q < s.data.size := hq
    simp only [byteNums, List.getElem?_map, Array.getElem?_toList, Array.getElem?_eq_getElem this]
    rfl
  rw [textBits, bitsOfNums_get _ q r hr, h]
  rfl
end Go.Proofs.Ytljejkdkjnbmhaa
/- bits, a reader: what is taken, plainly. No program in sight. -/
namespace Go.Proofs.Ytljejkdkjnbmhaa
open Go.RowKit

/-- What a taking answers, and how many bits are taken then. -/
def tkOk (s : ByteArray) (n : Nat) (m : Int) : Prop := 0 ≤ m ∧ m ≤ 62 ∧ m ≤ 8 * (s.size : Int) - n
instance (s : ByteArray) (n : Nat) (m : Int) : Decidable (tkOk s n m) := by unfold tkOk; infer_instance
def tkV (s : ByteArray) (n : Nat) (m : Int) : Int := if tkOk s n m then valOf (((textBits s).drop n).take m.toNat) else 0
def tkN (s : ByteArray) (n : Nat) (m : Int) : Nat := if tkOk s n m then n + m.toNat else n
theorem tkN_le {s : ByteArray} {n : Nat} {m : Int} (h : n ≤ 8 * s.size) : tkN s n m ≤ 8 * s.size := by
  unfold tkN
  split
  · next h2 => unfold tkOk at h2; omega
  · exact h
def txOk (s : ByteArray) (n : Nat) (m : Int) : Prop := 0 ≤ m ∧ m ≤ (s.size : Int) - nbytes n
instance (s : ByteArray) (n : Nat) (m : Int) : Decidable (txOk s n m) := by unfold txOk; infer_instance
def txV (s : ByteArray) (n : Nat) (m : Int) : ByteArray := if txOk s n m then s.extract (nbytes n) (nbytes n + m.toNat) else ByteArray.empty
def txN (s : ByteArray) (n : Nat) (m : Int) : Nat := if txOk s n m then 8 * (nbytes n + m.toNat) else n
end Go.Proofs.Ytljejkdkjnbmhaa
/- lz: tokens that are read. No program in sight. -/
namespace Go.Proofs.Ytljejkdkjnbmhaa
open Go.RowKit

def bcells (l : List Int) : List Value := l.map (.int .u8)
theorem bcells_length (l : List Int) : (bcells l).length = l.length := by simp [bcells]
theorem bcells_get {l : List Int} {k : Nat} {s : Int} (h : l[k]? = some s) : (bcells l)[k]? = some (.int .u8 s) := by simp [bcells, h]
theorem bcells_snoc (l : List Int) (x : Int) : bcells l ++ [.int .u8 x] = bcells (l ++ [x]) := by simp [bcells]
end Go.Proofs.Ytljejkdkjnbmhaa
/- flate: bounds of symbols. No program in sight. -/
namespace Go.Proofs.Ytljejkdkjnbmhaa
open Go.RowKit

def distBd (x : Nat) : Bool := decide ((distSym (x + 1)).1 ≤ 29 ∧ (distSym (x + 1)).2.1 ≤ 13 ∧ (distSym (x + 1)).2.2 < 2 ^ (distSym (x + 1)).2.1)
end Go.Proofs.Ytljejkdkjnbmhaa
/- flate: a block's bits, plainly. No program in sight. -/
namespace Go.Proofs.Ytljejkdkjnbmhaa

/-- A token's bits, by codes of lengths. -/
def tbits (L D : List Int) (t : Tok) : List Bool :=
  if t.len = 0 then cbits L t.lit.toNat
  else cbits L (lenSym t.len.toNat).1 ++ (bitsOf (lenSym t.len.toNat).2.2 (lenSym t.len.toNat).2.1 ++ (cbits D (distSym t.dist.toNat).1 ++ bitsOf (distSym t.dist.toNat).2.2 (distSym t.dist.toNat).2.1))
def toksB (L D : List Int) (l : List Tok) : List Bool := l.flatMap (tbits L D)
def bodyB (L D : List Int) (l : List Tok) : List Bool := toksB L D l ++ cbits L 256
/-- The fixed codes' lengths. -/
def fixL : List Int := List.replicate 144 8 ++ List.replicate 112 9 ++ List.replicate 24 7 ++ List.replicate 8 8
def fixD : List Int := List.replicate 32 5
def headB (last : Bool) (kind : Int) : List Bool := last :: bitsOf kind 2

/-- How often each symbol comes. -/
def litS (t : Tok) : Int := if t.len = 0 then t.lit else ((lenSym t.len.toNat).1 : Int)
def distS (t : Tok) : Int := ((distSym t.dist.toNat).1 : Int)
def litFq (l : List Tok) : List Int := bumpF ((zerosF 286).set 256 1) (l.map litS)
def distFq (l : List Tok) : List Int := bumpF (zerosF 30) ((l.filter fun t => decide (t.len ≠ 0)).map distS)
/-- Without the zeros behind the last one, at least so many. -/
def trimK (l : List Int) (least : Nat) : Nat → Nat
  | 0 => 0
  | k + 1 => if least < k + 1 ∧ l.getD k 0 = 0 then trimK l least k else k + 1
def trimF (l : List Int) (least : Nat) : List Int := l.take (trimK l least l.length)
/-- Lengths, as runs: symbol, how many bits more, these. -/
structure Run where
  sym : Int
  n : Int
  v : Int
def sameK (x : Int) : List Int → Nat
  | [] => 0
  | y :: t => if y = x then sameK x t + 1 else 0
def runsN : Nat → List Int → List Run
  | 0, _ => []
  | _ + 1, [] => []
  | f + 1, x :: t =>
    if x = 0 ∧ 10 < sameK x t + 1 then ⟨18, 7, (min (sameK x t + 1) 138 : Nat) - 11⟩ :: runsN f ((x :: t).drop (min (sameK x t + 1) 138))
    else if x = 0 ∧ 2 < sameK x t + 1 then ⟨17, 3, (sameK x t + 1 : Nat) - 3⟩ :: runsN f ((x :: t).drop (sameK x t + 1))
    else if 3 < sameK x t + 1 then ⟨x, 0, 0⟩ :: ⟨16, 2, (min (sameK x t + 1) 7 : Nat) - 4⟩ :: runsN f ((x :: t).drop (min (sameK x t + 1) 7))
    else ⟨x, 0, 0⟩ :: runsN f t
def runsF (l : List Int) : List Run := runsN l.length l
/-- The order in which the lengths of lengths' codes stand. -/
def ordF : List Nat := [16, 17, 18, 0, 8, 7, 9, 6, 10, 5, 11, 4, 12, 3, 13, 2, 14, 1, 15]
def richL (l : List Tok) : List Int := trimF (resF (litFq l) 15) 257
def richD (l : List Tok) : List Int := trimF (resF (distFq l) 15) 1
def richR (l : List Tok) : List Run := runsF (richL l ++ richD l)
def runFq (rs : List Run) : List Int := bumpF (zerosF 19) (rs.map Run.sym)
def runL (rs : List Run) : List Int := resF (runFq rs) 7
def sortedF (ls : List Int) : List Int := trimF (ordF.map fun s => ls.getD s 0) 4
def runB (ls : List Int) (r : Run) : List Bool := cbits ls r.sym.toNat ++ bitsOf r.v r.n.toNat
def runsB (ls : List Int) (rs : List Run) : List Bool := rs.flatMap (runB ls)
def lensB (l : List Int) : List Bool := l.flatMap fun n => bitsOf n 3
def sizesB (a b c : Nat) : List Bool := bitsOf ((a : Int) - 257) 5 ++ (bitsOf ((b : Int) - 1) 5 ++ bitsOf ((c : Int) - 4) 4)
/-- What stands behind a block's beginning. -/
def richB (l : List Tok) : List Bool :=
  sizesB (richL l).length (richD l).length (sortedF (runL (richR l))).length ++ (lensB (sortedF (runL (richR l))) ++ (runsB (runL (richR l)) (richR l) ++ bodyB (richL l) (richD l) l))
def blockB (l : List Tok) (kind : Int) (last : Bool) : List Bool := if kind = 1 then headB last 1 ++ bodyB fixL fixD l else headB last 2 ++ richB l
/-- A text as it is. -/
def storeB : Nat → ByteArray → List Bool → List Bool
  | 0, _, bs => bs
  | f + 1, t, bs => if t.size ≤ 65535
      then aligned (bs ++ headB true 0) ++ (bitsOf (t.size : Int) 16 ++ (bitsOf (65535 - (t.size : Int)) 16 ++ textBits t))
      else storeB f (t.extract 65535 t.size) (aligned (bs ++ headB false 0) ++ (bitsOf 65535 16 ++ (bitsOf 0 16 ++ textBits (t.extract 0 65535))))
def storeF (s : ByteArray) : List Bool := storeB (s.size + 1) s []

/-- What a token of a text may be. -/
def TokOk (t : Tok) : Prop := (t.len = 0 ∧ 0 ≤ t.lit ∧ t.lit < 256) ∨ (3 ≤ t.len ∧ t.len ≤ 258 ∧ 1 ≤ t.dist ∧ t.dist ≤ 32768)
/-! ### symbols -/

/-! ### how long -/
theorem fixL_ok : fixL.length = 288 ∧ cerrF fixL = 0 ∧ terrF fixL = 0 := by decide +kernel
end Go.Proofs.Ytljejkdkjnbmhaa
/- inflate: what the walks know plainly. No program in sight. -/
namespace Go.Proofs.Ytljejkdkjnbmhaa
open Go.RowKit

/-- What a part of unpacking yields, said of a value, a place and a fault. -/
def GotR {α : Type} (g : Got α) (v : α) (n : Nat) (e : Int) : Prop := match g with
  | .ok v0 m => v = v0 ∧ n = m ∧ e = 0
  | .ran => e = 2
  | .bad e0 => e = e0
theorem xor_sum {a b : Nat} (ha : a ≤ 65535) (hb : b ≤ 65535) : a ^^^ b = 65535 ↔ a + b = 65535 := by
  have h1 : a ^^^ 65535 = 65535 - a := by
    have e1 : (BitVec.ofNat 16 a ^^^ BitVec.allOnes 16).toNat = 65535 - a := by
      rw [BitVec.xor_allOnes, BitVec.toNat_not, BitVec.toNat_ofNat, Nat.mod_eq_of_lt (by omega)]
    rw [BitVec.toNat_xor, BitVec.toNat_ofNat, Nat.mod_eq_of_lt (by omega)] at e1
    exact e1
  constructor
  · intro h
    have : b = a ^^^ (a ^^^ b) := by rw [← Nat.xor_assoc, Nat.xor_self, Nat.zero_xor]
    rw [h, h1] at this
    omega
  · intro h
    have : b = a ^^^ 65535 := by omega
    rw [this, ← Nat.xor_assoc, Nat.xor_self, Nat.zero_xor]
theorem xor_num {a b : Int} (ha : 0 ≤ a ∧ a < 65536) (hb : 0 ≤ b ∧ b < 65536) : ∃ c : Int, bits .xor .i64 a b = c ∧ (c = 65535 ↔ a + b = 65535) := by
  obtain ⟨a, rfl⟩ : ∃ k : Nat, a = k := ⟨a.toNat, by omega⟩
  obtain ⟨b, rfl⟩ : ∃ k : Nat, b = k := ⟨b.toNat, by omega⟩
  have h := xor_sum (a := a) (b := b) (by omega) (by omega)
  have hlt : a ^^^ b < 2 ^ 16 := Nat.xor_lt_two_pow (by omega) (by omega)
  have key : IntKind.i64.wrap ((BitVec.ofInt 64 (a : Int) ^^^ BitVec.ofInt 64 (b : Int)).toNat : Int) = ((a ^^^ b : Nat) : Int) := by
    rw [BitVec.ofInt_natCast, BitVec.ofInt_natCast, BitVec.toNat_xor, BitVec.toNat_ofNat, BitVec.toNat_ofNat, Nat.mod_eq_of_lt (by omega), Nat.mod_eq_of_lt (by omega), IntKind.wrap_i64]
    omega
  exact ⟨_, key, by omega⟩
theorem bytesAt_text {s : ByteArray} {q k : Nat} (h : q + k ≤ s.size) : bytesAt (textBits s) (8 * q) k = byteNums (s.extract q (q + k)) := by
  have e1 : ∀ (l : List Int) (j : Nat), (bitsOfNums l).drop (8 * j) = bitsOfNums (l.drop j) := by
    intro l
    induction l with
    | nil => intro j; simp [bitsOfNums]
    | cons x t ih =>
      intro j
      cases j with
      | zero => simp
      | succ j =>
        rw [List.drop_succ_cons, ← ih, bitsOfNums, List.flatMap_cons, show 8 * (j + 1) = (bitsOf x 8).length + 8 * j by rw [bitsOf_length]; omega, ← List.drop_drop, List.drop_left]
        rfl
  have e2 : ∀ (l : List Int) (j : Nat), (bitsOfNums l).take (8 * j) = bitsOfNums (l.take j) := by
    intro l
    induction l with
    | nil => intro j; simp [bitsOfNums]
    | cons x t ih =>
      intro j
      cases j with
      | zero => simp [bitsOfNums]
      | succ j =>
        rw [List.take_succ_cons, bitsOfNums, List.flatMap_cons, bitsOfNums, List.flatMap_cons, show 8 * (j + 1) = (bitsOf x 8).length + 8 * j by rw [bitsOf_length]; omega, List.take_length_add_append]
        exact congrArg _ (ih j)
  unfold bytesAt textBits
  rw [e1, e2]
  have e3 : byteNums (s.extract q (q + k)) = ((byteNums s).drop q).take k := by
    unfold byteNums
    rw [ByteArray.data_extract, Array.toList_extract, List.extract_eq_take_drop, ← List.map_drop, ← List.map_take, Nat.add_sub_cancel_left]
  rw [e3, bytesOf_nums]
  intro x hx
  exact byteNums_bd s x (List.mem_of_mem_drop (List.mem_of_mem_take hx))
theorem nbytes_8 (q : Nat) : nbytes (8 * q) = q := by unfold nbytes; omega
/-- Lengths that are a code's. -/
structure TabOk (l : List Int) : Prop where
  all : ∀ x ∈ l, 0 ≤ x ∧ x ≤ 15
  wt : sumF wtF l ≤ 2 ^ 15
  len : l.length ≤ 1000000
theorem dec_bd (l : List Int) : ∀ f n c bs, 0 ≤ (decN l f n c bs).1 ∧ ((decN l f n c bs).1 = 0 ∨ (decN l f n c bs).1 < l.length) := by
  intro f
  induction f with
  | zero => intro n c bs; simp [decN]
  | succ f ih =>
    intro n c bs
    cases bs with
    | nil => simp [decN]
    | cons b t =>
      rw [decN]
      split
      · next s h =>
        have := (symsL_at h).1
        simp only
        omega
      · exact ih _ _ _
def lenG (bs : List Bool) (c : Int) (n : Nat) : Got Int := if 285 < c then .bad 2 else (takeG bs (lenT0 c.toNat).2 n).bind fun v m => .ok ((lenT0 c.toNat).1 + v) m
def distG (bs : List Bool) (k : Int) (n : Nat) : Got Int := if 29 < k then .bad 2 else (takeG bs (distT0 k.toNat).2 n).bind fun v m => .ok ((distT0 k.toNat).1 + v) m
theorem lenT0_small (i : Nat) (h : i < 8) : lenT0 (257 + i) = (3 + i, 0) := by
  have : ∀ i : Fin 8, lenT0 (257 + i.val) = (3 + i.val, 0) := by decide
  exact this ⟨i, h⟩
theorem lenT0_mid (i : Nat) (h : i < 20) : lenT0 (265 + i) = (3 + (4 + i % 4) * 2 ^ (i / 4 + 1), i / 4 + 1) := by
  have : ∀ i : Fin 20, lenT0 (265 + i.val) = (3 + (4 + i.val % 4) * 2 ^ (i.val / 4 + 1), i.val / 4 + 1) := by decide
  exact this ⟨i, h⟩
theorem lenT0_last : lenT0 285 = (258, 0) := rfl
theorem tk_got {s : ByteArray} {n k : Nat} (hk : k ≤ 62) (hn : n ≤ 8 * s.size) : GotR (takeG (textBits s) k n) (tkV s n k) (tkN s n k) (if tkOk s n k then 0 else 2) ∧ tkN s n k ≤ 8 * s.size ∧ 0 ≤ tkV s n k := by
  refine ⟨?_, tkN_le hn, ?_⟩
  · unfold takeG
    rw [textBits_length]
    by_cases h : tkOk s n k
    · have h' := h
      unfold tkOk at h'
      rw [if_pos (by omega), if_pos h]
      unfold tkV tkN
      rw [if_pos h, if_pos h]
      exact ⟨by simp, by simp, rfl⟩
    · have h' := h
      unfold tkOk at h'
      rw [if_neg (by omega), if_neg h]
      rfl
  · unfold tkV
    split
    · exact (valOf_bd _).1
    · omega
theorem tkV_lt {s : ByteArray} {n k : Nat} (hk : k ≤ 16) : tkV s n k < 65536 := by
  unfold tkV
  split
  · have h := valOf_bd (((textBits s).drop n).take (k : Int).toNat)
    refine Int.lt_of_lt_of_le h.2 ?_
    have hl : (((textBits s).drop n).take (k : Int).toNat).length ≤ 16 := by simp; omega
    exact pow2_le hl
  · omega
/-- What is taken behind something that was told: the first fault stands. -/
def tkE (s : ByteArray) (n : Nat) (k : Int) (e : Int) : Int := if tkOk s n k then e else if e = 0 then 2 else e
theorem tk_zero {s : ByteArray} {n : Nat} {e : Int} (hn : n ≤ 8 * s.size) : tkV s n ((0 : Nat) : Int) = 0 ∧ tkN s n ((0 : Nat) : Int) = n ∧ tkE s n ((0 : Nat) : Int) e = e := by
  have h : tkOk s n ((0 : Nat) : Int) := by unfold tkOk; omega
  unfold tkV tkN tkE
  rw [if_pos h, if_pos h, if_pos h]
  simp [valOf]
theorem distT0_small (i : Nat) (h : i < 4) : distT0 i = (1 + i, 0) := by
  have : ∀ i : Fin 4, distT0 i.val = (1 + i.val, 0) := by decide
  exact this ⟨i, h⟩
theorem distT0_mid (i : Nat) (h : i < 26) : distT0 (4 + i) = (1 + (2 + i % 2) * 2 ^ (i / 2 + 1), i / 2 + 1) := by
  have : ∀ i : Fin 26, distT0 (4 + i.val) = (1 + (2 + i.val % 2) * 2 ^ (i.val / 2 + 1), i.val / 2 + 1) := by decide
  exact this ⟨i, h⟩
theorem fixTab_eq : fixTab = (fixL, fixD) := by
  unfold fixTab fixL fixD
  rfl
theorem fix_terr : terrF fixL = 0 ∧ terrF fixD = 0 := by decide +kernel
theorem fix_ok : TabOk fixL ∧ TabOk fixD := by
  refine ⟨⟨?_, by decide +kernel, by decide +kernel⟩, ⟨?_, by decide +kernel, by decide +kernel⟩⟩
  · have : fixL.all (fun x => decide (0 ≤ x ∧ x ≤ 15)) = true := by decide +kernel
    intro x hx
    simpa using List.all_eq_true.1 this x hx
  · have : fixD.all (fun x => decide (0 ≤ x ∧ x ≤ 15)) = true := by decide +kernel
    intro x hx
    simpa using List.all_eq_true.1 this x hx
/-- What is there, and what is amiss, behind a length again. -/
def agL (N : Nat) (l : List Int) (k : Nat) (x : Int) : List Int := if N < l.length + k then l else l ++ List.replicate k x
def agE (N : Nat) (l : List Int) (k : Nat) (e : Int) : Int := if N < l.length + k then (if e = 0 then 2 else e) else e
theorem nums_append (a b : List Int) : nums a ++ nums b = nums (a ++ b) := by unfold nums; rw [List.map_append]
/-- Where lengths stand: as they go on, or a fault. -/
def LSt (bs : List Bool) (G : Got (List Int)) (T : List Int) (N : Nat) (l : List Int) (n : Nat) (e : Int) : Prop := (e = 0 → lengthsG bs T N l n = G) ∧ (e ≠ 0 → ∀ v m, GotR G v m e)
theorem sym_bad {bs : List Bool} {T : List Int} {n : Nat} : ∀ e, symG bs T n = .bad e → e ≠ 0 := by
  intro e h
  unfold symG at h
  split at h
  · cases h
  · split at h
    · cases h
    · cases h; decide
theorem agL_len {N k : Nat} {l : List Int} {x : Int} (h : l.length ≤ N) : (agL N l k x).length ≤ N := by
  unfold agL
  split
  · exact h
  · rw [List.length_append, List.length_replicate]; omega
/-- What a round leaves is less. -/
def lmeas (N : Nat) (u e : Value) : Nat := if intOf e = 0 then N + 1 - sliceLen u else 0
theorem agL_less {N k : Nat} {l : List Int} {x e : Int} (hk : 1 ≤ k) (hl : l.length < N) : (if agE N l k e = 0 then N + 1 - (agL N l k x).length else 0) < N + 1 - l.length := by
  unfold agE agL
  by_cases hx : N < l.length + k
  · rw [if_pos hx, if_pos hx]
    by_cases he : e = 0
    · rw [if_pos he, if_neg (by decide)]; omega
    · rw [if_neg he, if_neg he]; omega
  · rw [if_neg hx, if_neg hx, List.length_append, List.length_replicate]
    split <;> omega
theorem tk_small {s : ByteArray} {n k V : Nat} (hk : k ≤ 7) (h : tkV s n k = V) : V < 128 := by
  unfold tkV at h
  split at h
  · have hb := valOf_bd (((textBits s).drop n).take (k : Int).toNat)
    have hl : (((textBits s).drop n).take (k : Int).toNat).length ≤ 7 := by simp; omega
    have hp := pow2_le hl
    have : (2 : Int) ^ 7 = 128 := rfl
    omega
  · omega
theorem tab_ok {l : List Int} (h : terrF l = 0) : TabOk l := by
  obtain ⟨h1, h2, h3⟩ := table_ok h
  exact ⟨h2, h3, by omega⟩
def tmeas (m : Nat) (u e : Value) : Nat := if intOf e = 0 then m + 1 - sliceLen u else 0
def imeas (z : Nat) (a e n : Value) : Nat := if intOf a = 0 ∧ intOf e = 0 then 8 * z + 1 - (intOf n).toNat else 0
end Go.Proofs.Ytljejkdkjnbmhaa
