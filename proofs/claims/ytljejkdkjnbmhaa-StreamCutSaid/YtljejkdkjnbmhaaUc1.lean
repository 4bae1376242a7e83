/-
  Texts of this claim, one behind the other: Memory that a call owns, piece by piece; append, make, slice literals on slices that the call itself owns ('Own', 'slc'); slices that are only read ('Rd'). No program in sight; What comes in, read; Stores into blocks and slices of the call's own, in a walk; Slices of the call's own that begin anywhere in their row (what 'xs = xs[1:]' leaves); Rows that are read, cell by cell; texts. No program in sight; A store to a cell of a slice of the call's own, its elements of any width. No program in sight; Rows of structs; What comes in; Stable sorts, plainly; A region that draws its order, all of whose operations but the last few yield values that are known, and keep a condition S on the world ('calm'); Calm regions over what a call owns; The stable sort of slices of coins; huff; huff; huff; huff; huff.
-/
import Derived.WalkKit
import Derived.Lib.Hide
import Derived.Deep.Draws
import Derived.ProofKit
import Derived.Deep.Slices
import Derived.SizedLaws
import Derived.Lib.SmallJoins
import Derived.Test.YtljejkdkjnbmhaaRows
import Derived.Orders
import Derived.Tactics
import Derived.KernelRfl
import Derived.StillTactics
import Derived.Carry
import Derived.Deep.DeepCutAuto
import Derived.Deep.CutBlock
import Derived.Deep.LoopGhost
import Derived.WalkLawsBesides
import Derived.WalkSpells
import Derived.BigQuiet
import Derived.Deep.QuietTactic
set_option linter.unusedVariables false
/- Memory that a call owns, piece by piece: 'Own w0 w ps': the world w is w0 with new blocks, and the pieces ps lie in disjoint blocks of its own. Laws on allocs, stores, appends. No program in sight. -/
namespace Go.Proofs.Ytljejkdkjnbmhaa
open Go.RowKit

abbrev Heaplet := List (Nat × Obj)
abbrev Piece := Heaplet → Prop

def Holds (B : Nat) (w : World) : List Piece → List Nat → Prop
  | [], _ => True
  | p :: ps, u => ∃ h : Heaplet, p h ∧ (h.map (·.1)).Nodup ∧ (∀ x ∈ h, x.1 ∉ u ∧ B ≤ x.1 ∧ w.heap[x.1]? = some x.2) ∧ Holds B w ps (h.map (·.1) ++ u)

theorem front_perm {α : Type _} : ∀ (l : List α) (i : Nat) (a : α), l[i]? = some a → l.Perm (a :: l.eraseIdx i)
  | [], _, _, h => by simp at h
  | x :: l, 0, a, h => by simp at h; subst h; exact List.Perm.refl _
  | x :: l, i + 1, a, h => ((front_perm l i a (by simpa using h)).cons x).trans (List.Perm.swap _ _ _)

structure Own (w0 w : World) (ps : List Piece) : Prop where
  below : Below w0.heap.size w0 w
  holds : Holds w0.heap.size w ps []

theorem Holds.anti {B : Nat} {w : World} {ps : List Piece} : ∀ {u u' : List Nat}, Holds B w ps u → (∀ x, x ∈ u' → x ∈ u) → Holds B w ps u' := by
  induction ps with
  | nil => intro _ _ _ _; trivial
  | cons p ps ih =>
    intro u u' ⟨h, hp, hn, hx, hr⟩ hu
    refine ⟨h, hp, hn, fun x hxm => ⟨fun hm => (hx x hxm).1 (hu _ hm), (hx x hxm).2⟩, ih hr ?_⟩
    intro x hxm
    rcases List.mem_append.1 hxm with h1 | h1
    · exact List.mem_append.2 (.inl h1)
    · exact List.mem_append.2 (.inr (hu _ h1))

theorem Holds.perm {B : Nat} {w : World} {ps qs : List Piece} (hp : ps.Perm qs) : ∀ {u : List Nat}, Holds B w ps u → Holds B w qs u := by
  induction hp with
  | nil => intro _ h; exact h
  | cons p _ ih => intro u ⟨h, h1, h2, h3, h4⟩; exact ⟨h, h1, h2, h3, ih h4⟩
  | swap p q ps =>
    intro u ⟨h, h1, h2, h3, g, g1, g2, g3, g4⟩
    refine ⟨g, g1, g2, fun x hx => ⟨fun hm => (g3 x hx).1 (List.mem_append.2 (.inr hm)), (g3 x hx).2⟩, h, h1, h2, fun x hx => ⟨fun hm => ?_, (h3 x hx).2⟩, ?_⟩
    · rcases List.mem_append.1 hm with hm | hm
      · obtain ⟨y, hy, hye⟩ := List.mem_map.1 hm
        exact (g3 y hy).1 (List.mem_append.2 (.inl (by rw [hye]; exact List.mem_map.2 ⟨x, hx, rfl⟩)))
      · exact (h3 x hx).1 hm
    · refine Holds.anti g4 ?_
      intro x hx
      simp only [List.mem_append] at hx ⊢
      rcases hx with h | h | h
      · exact .inr (.inl h)
      · exact .inl h
      · exact .inr (.inr h)
  | trans _ _ ih1 ih2 => intro u h; exact ih2 (ih1 h)

/-- Worlds that agree on the blocks in use. -/
theorem Holds.carry {B : Nat} {w w' : World} {ps : List Piece} : ∀ {u : List Nat}, Holds B w ps u → (∀ k, B ≤ k → k ∉ u → k < w.heap.size → w'.heap[k]? = w.heap[k]?) → Holds B w' ps u := by
  induction ps with
  | nil => intro _ _ _; trivial
  | cons p ps ih =>
    intro u ⟨h, h1, h2, h3, h4⟩ hk
    refine ⟨h, h1, h2, fun x hx => ⟨(h3 x hx).1, (h3 x hx).2.1, ?_⟩, ih h4 fun k hB hku hlt => hk k hB (fun hm => hku (List.mem_append.2 (.inr hm))) hlt⟩
    rw [hk x.1 (h3 x hx).2.1 (h3 x hx).1 (Array.getElem?_eq_some_iff.1 (h3 x hx).2.2).1]
    exact (h3 x hx).2.2

theorem Holds.use {B : Nat} {w : World} {ps : List Piece} : ∀ {u u' : List Nat}, Holds B w ps u → (∀ k, k ∈ u' → k ∈ u ∨ w.heap.size ≤ k) → Holds B w ps u' := by
  induction ps with
  | nil => intro _ _ _ _; trivial
  | cons p ps ih =>
    intro u u' ⟨h, h1, h2, h3, h4⟩ hk
    refine ⟨h, h1, h2, fun x hx => ⟨fun hm => ?_, (h3 x hx).2⟩, ih h4 fun k hm => ?_⟩
    · rcases hk _ hm with h | h
      · exact (h3 x hx).1 h
      · have := (Array.getElem?_eq_some_iff.1 (h3 x hx).2.2).1; omega
    · rcases List.mem_append.1 hm with hm | hm
      · exact .inl (List.mem_append.2 (.inl hm))
      · rcases hk _ hm with h | h
        · exact .inl (List.mem_append.2 (.inr h))
        · exact .inr h

section
variable {w0 w w' : World} {p q : Piece} {ps qs : List Piece}

theorem Own.start (w : World) : Own w w [] := ⟨Below.refl _ _, trivial⟩
theorem Own.perm (h : Own w0 w ps) (hp : ps.Perm qs) : Own w0 w qs := ⟨h.below, h.holds.perm hp⟩
theorem Own.drop (h : Own w0 w (p :: ps)) : Own w0 w ps := by
  obtain ⟨hb, g, _, _, _, hr⟩ := h
  exact ⟨hb, hr.anti (by simp)⟩
theorem Own.swap (h : Own w0 w (p :: q :: ps)) : Own w0 w (q :: p :: ps) := h.perm (List.Perm.swap q p ps)
theorem Own.imp (h : Own w0 w (p :: ps)) (hpq : ∀ x, p x → q x) : Own w0 w (q :: ps) := by
  obtain ⟨hb, g, h1, h2⟩ := h
  exact ⟨hb, g, hpq _ h1, h2⟩
theorem Own.front (i : Nat) (h : Own w0 w ps) (hi : ps[i]? = some p) : Own w0 w (p :: ps.eraseIdx i) := h.perm (front_perm ps i p hi)
theorem Own.size (h : Own w0 w ps) : w0.heap.size ≤ w.heap.size := h.below.size
theorem Own.oldCell (h : Own w0 w ps) {a : Addr} (hk : a.block < w0.heap.size) : w.cell? a = w0.cell? a := h.below.cell hk
theorem Own.drew (h : Own w0 w ps) : Own w0 w.drew ps := ⟨h.below.drew, h.holds.carry fun _ _ _ _ => rfl⟩
/-- What a callee owns of its own, called on a world where we own ps. -/
theorem Own.join (h : Own w0 w ps) (g : Own w w' qs) : Own w0 w' (qs ++ ps) := by
  refine ⟨h.below.trans (g.below.mono h.size), ?_⟩
  have key : ∀ (qs : List Piece) (u : List Nat), (∀ k, k ∈ u → w.heap.size ≤ k) → Holds w.heap.size w' qs u → Holds w0.heap.size w' (qs ++ ps) u := by
    intro qs
    induction qs with
    | nil =>
      intro u hu _
      refine Holds.carry (w := w) ?_ (fun k _ _ hlt => g.below.block k hlt)
      exact h.holds.use (fun k hk => .inr (hu k hk))
    | cons q qs ih =>
      intro u hu ⟨x, h1, h2, h3, h4⟩
      refine ⟨x, h1, h2, fun y hy => ⟨(h3 y hy).1, Nat.le_trans h.size (h3 y hy).2.1, (h3 y hy).2.2⟩, ih _ ?_ h4⟩
      intro k hk
      rcases List.mem_append.1 hk with hk | hk
      · obtain ⟨y, hy, rfl⟩ := List.mem_map.1 hk
        exact (h3 y hy).2.1
      · exact hu k hk
  exact key qs [] (by simp) g.holds
end

/-! ### pieces -/
def blk (b : Nat) (o : Obj) : Piece := fun h => h = [(b, o)]
def star (p q : Piece) : Piece := fun h => ∃ a b, h = a ++ b ∧ p a ∧ q b
def ex {α : Type} (f : α → Piece) : Piece := fun h => ∃ a, f a h
def fact (φ : Prop) : Piece := fun h => h = [] ∧ φ
/-- A slice that begins at the head of a row of its own: n elements of 'size' cells, the cells xs; or nil. -/
def slc (e : TypeId) (size : Nat) (v : Value) (n : Nat) (xs : List Value) : Piece := fun h =>
  xs.length = n * size ∧ ((v = .slice none 0 0 ∧ n = 0 ∧ h = []) ∨
    ∃ g cap cur, v = .slice (some ⟨g, 0, none⟩) n cap ∧ h = [(g, .cells cur e (0, 0))] ∧ n ≤ cap ∧ cap ≤ maxLen ∧ cur.size = cap * size ∧ cur.toList.take (n * size) = xs)

section
variable {w0 w w' : World} {p q : Piece} {ps qs : List Piece}

theorem Own.star (h : Own w0 w (star p q :: ps)) : Own w0 w (p :: q :: ps) := by
  obtain ⟨hb, x, ⟨a, b, rfl, ha, hq⟩, hn, hx, hr⟩ := h
  rw [List.map_append, List.nodup_append] at hn
  refine ⟨hb, a, ha, hn.1, fun y hy => hx y (List.mem_append.2 (.inl hy)), b, hq, hn.2.1, fun y hy => ⟨fun hm => ?_, (hx y (List.mem_append.2 (.inr hy))).2⟩, ?_⟩
  · have hm : y.1 ∈ a.map (·.1) := by simpa using hm
    exact hn.2.2 y.1 hm y.1 (List.mem_map.2 ⟨y, hy, rfl⟩) rfl
  · refine hr.anti ?_
    intro k hk
    simp only [List.map_append, List.mem_append] at hk ⊢
    rcases hk with h | h | h
    · exact .inl (.inr h)
    · exact .inl (.inl h)
    · exact .inr h
theorem Own.unstar (h : Own w0 w (p :: q :: ps)) : Own w0 w (Go.Proofs.Ytljejkdkjnbmhaa.star p q :: ps) := by
  obtain ⟨hb, a, ha, hn, hx, b, hq, hn2, hx2, hr⟩ := h
  refine ⟨hb, a ++ b, ⟨a, b, rfl, ha, hq⟩, ?_, fun y hy => ?_, ?_⟩
  · rw [List.map_append, List.nodup_append]
    refine ⟨hn, hn2, fun k hk k' hk' e => ?_⟩
    subst e
    obtain ⟨y, hy, rfl⟩ := List.mem_map.1 hk'
    exact (hx2 y hy).1 (by simpa using hk)
  · rcases List.mem_append.1 hy with hy | hy
    · exact hx y hy
    · exact ⟨by simp, (hx2 y hy).2⟩
  · refine hr.anti ?_
    intro k hk
    simp only [List.map_append, List.mem_append] at hk ⊢
    rcases hk with (h | h) | h
    · exact .inr (.inl h)
    · exact .inl h
    · exact .inr (.inr h)
theorem Own.ex {α : Type} {f : α → Piece} (h : Own w0 w (ex f :: ps)) : ∃ a, Own w0 w (f a :: ps) := by
  obtain ⟨hb, x, ⟨a, ha⟩, r⟩ := h
  exact ⟨a, hb, x, ha, r⟩
theorem Own.unex {α : Type} {f : α → Piece} (a : α) (h : Own w0 w (f a :: ps)) : Own w0 w (Go.Proofs.Ytljejkdkjnbmhaa.ex f :: ps) :=
  h.imp fun _ hx => ⟨a, hx⟩
theorem Own.fact {φ : Prop} (h : Own w0 w (fact φ :: ps)) : φ ∧ Own w0 w ps := by
  have := h.drop
  obtain ⟨hb, x, ⟨_, hφ⟩, _⟩ := h
  exact ⟨hφ, this⟩
theorem Own.unfact {φ : Prop} (hφ : φ) (h : Own w0 w ps) : Own w0 w (Go.Proofs.Ytljejkdkjnbmhaa.fact φ :: ps) :=
  ⟨h.below, [], ⟨rfl, hφ⟩, by simp, by simp, by simpa using h.holds⟩

/-- A new block. -/
theorem Own.alloc (h : Own w0 w ps) (o : Obj) : Own w0 (w.alloc o) (blk w.heap.size o :: ps) := by
  refine ⟨h.below.alloc h.size o, [(w.heap.size, o)], rfl, by simp, ?_, ?_⟩
  · intro x hx
    simp only [List.mem_singleton] at hx
    subst hx
    exact ⟨by simp, h.size, heap_alloc_new w o⟩
  · refine (h.holds.use (u' := [w.heap.size]) ?_).carry fun k _ _ hlt => Below.heap_alloc w o k hlt
    intro k hk
    simp only [List.mem_singleton] at hk
    exact .inr (by omega)
/-- A new block that nobody keeps. -/
theorem Own.alloc' (h : Own w0 w ps) (o : Obj) : Own w0 (w.alloc o) ps := (h.alloc o).drop

/-- Two new blocks. -/
theorem Own.alloc2 (h : Own w0 w ps) (o o' : Obj) : Own w0 ((w.alloc o).alloc o') (blk (w.heap.size + 1) o' :: blk w.heap.size o :: ps) := by
  have := (h.alloc o).alloc o'
  simpa using this

theorem Own.block {b : Nat} {o : Obj} (h : Own w0 w (blk b o :: ps)) : w.heap[b]? = some o ∧ w0.heap.size ≤ b := by
  obtain ⟨_, x, rfl, _, hx, _⟩ := h
  have := hx (b, o) (by simp)
  exact ⟨this.2.2, this.2.1⟩
theorem cell_of_block {b : Nat} {cur : Array Value} {e : TypeId} {fr : Nat × Nat} (h : w.heap[b]? = some (.cells cur e fr)) (i : Nat) : w.cell? ⟨b, i, none⟩ = cur[i]? := by
  simp [World.cell?, h]
theorem frozen_of_block {b : Nat} {cur : Array Value} {e : TypeId} (h : w.heap[b]? = some (.cells cur e (0, 0))) (i : Nat) : w.frozen? ⟨b, i, none⟩ = false := by
  simp [World.frozen?, h]
theorem Own.cell {b : Nat} {cur : Array Value} {e : TypeId} {fr : Nat × Nat} (h : Own w0 w (blk b (.cells cur e fr) :: ps)) (i : Nat) : w.cell? ⟨b, i, none⟩ = cur[i]? :=
  cell_of_block h.block.1 i
theorem Own.cells {b : Nat} {cur : Array Value} {e : TypeId} {fr : Nat × Nat} (h : Own w0 w (blk b (.cells cur e fr) :: ps)) : ∀ i, w.cell? ⟨b, i, none⟩ = cur[i]? := h.cell
theorem Own.free {b : Nat} {cur : Array Value} {e : TypeId} (h : Own w0 w (blk b (.cells cur e) :: ps)) (i : Nat) : w.frozen? ⟨b, i, none⟩ = false :=
  frozen_of_block h.block.1 i

/-- Whatever turns just the block of the first piece (which is one block), and lays new ones. -/
theorem Own.turn {b : Nat} {o o' : Obj} (h : Own w0 w (blk b o :: ps)) (hos : w'.os = w.os) (htape : w'.tape = w.tape) (hout : w'.output = w.output) (hsize : w.heap.size ≤ w'.heap.size)
    (hb : w'.heap[b]? = some o') (hk : ∀ k, k < w.heap.size → k ≠ b → w'.heap[k]? = w.heap[k]?) : Own w0 w' (blk b o' :: ps) := by
  have hB := h.block.2
  obtain ⟨hbel, x, rfl, hn, hx, hr⟩ := h
  refine ⟨hbel.trans ⟨hos, htape, hout, hsize, fun k hlt => hk k (by have := hbel.size; omega) (by omega)⟩, [(b, o')], rfl, by simp, ?_, ?_⟩
  · intro y hy
    simp only [List.mem_singleton] at hy
    subst hy
    exact ⟨by simp, hB, hb⟩
  · refine Holds.carry (w := w) hr ?_
    intro k _ hnk hlt
    exact hk k hlt (fun e => hnk (by simp [e]))

theorem Own.bare (h : Own w0 w ps) : Own w0 w [] := ⟨h.below, trivial⟩

/-! ### slices -/
variable {e : TypeId} {size n : Nat} {v : Value} {xs : List Value}

theorem Own.nil (h : Own w0 w ps) (e : TypeId) (size : Nat) : Own w0 w (slc e size (.slice none 0 0) 0 [] :: ps) :=
  ⟨h.below, [], ⟨by simp, .inl ⟨rfl, rfl, rfl⟩⟩, by simp, by simp, by simpa using h.holds⟩
/-- nil, or a block. -/
theorem Own.slc_cases (h : Own w0 w (slc e size v n xs :: ps)) :
    (v = .slice none 0 0 ∧ n = 0 ∧ xs = [] ∧ Own w0 w ps) ∨
    ∃ g cap cur, v = .slice (some ⟨g, 0, none⟩) n cap ∧ xs.length = n * size ∧ n ≤ cap ∧ cap ≤ maxLen ∧ cur.size = cap * size ∧ cur.toList.take (n * size) = xs ∧ Own w0 w (blk g (.cells cur e) :: ps) := by
  have hd := h.drop
  obtain ⟨hb, x, ⟨hl, hx⟩, r⟩ := h
  rcases hx with ⟨rfl, rfl, rfl⟩ | ⟨g, cap, cur, rfl, rfl, h1, h2, h3, h4⟩
  · exact .inl ⟨rfl, rfl, List.eq_nil_of_length_eq_zero (by simpa using hl), hd⟩
  · exact .inr ⟨g, cap, cur, rfl, hl, h1, h2, h3, h4, hb, _, rfl, r⟩
theorem Own.slc_mk {g cap : Nat} {cur : Array Value} (h : Own w0 w (blk g (.cells cur e) :: ps)) (hl : xs.length = n * size) (h1 : n ≤ cap) (h2 : cap ≤ maxLen) (h3 : cur.size = cap * size) (h4 : cur.toList.take (n * size) = xs) :
    Own w0 w (slc e size (.slice (some ⟨g, 0, none⟩) n cap) n xs :: ps) := by
  obtain ⟨hb, x, rfl, r⟩ := h
  exact ⟨hb, _, ⟨hl, .inr ⟨g, cap, cur, rfl, rfl, h1, h2, h3, h4⟩⟩, r⟩
theorem Own.slc_len (h : Own w0 w (slc e size v n xs :: ps)) : xs.length = n * size := by
  obtain ⟨hb, x, ⟨hl, _⟩, _⟩ := h
  exact hl
/-- A made row: a slice of n elements. -/
theorem Own.made (h : Own w0 w ps) (cur : List Value) (e : TypeId) (size n : Nat) (hl : cur.length = n * size) (hm : n ≤ maxLen) :
    Own w0 (w.alloc (.cells cur.toArray e)) (slc e size (.slice (some ⟨w.heap.size, 0, none⟩) n n) n cur :: ps) :=
  (h.alloc (.cells cur.toArray e)).slc_mk hl (Nat.le_refl _) hm (by simpa using hl) (by simp [← hl])
end

end Go.Proofs.Ytljejkdkjnbmhaa
/- append, make, slice literals on slices that the call itself owns ('Own', 'slc'); slices that are only read ('Rd'). No program in sight. -/
namespace Go.Proofs.Ytljejkdkjnbmhaa
open Go.RowKit

/-- A slice that reads as n elements of 'size' cells each, the cells xs. -/
def Rd (w : World) (size : Nat) (v : Value) (n : Nat) (xs : List Value) : Prop :=
  xs.length = n * size ∧ ∃ a c, v = .slice a n c ∧ n ≤ c ∧ c ≤ maxLen ∧ (a = none → n = 0 ∧ c = 0) ∧ ∀ ad, a = some ad → ∀ j u, xs[j]? = some u → w.cell? (ad.add j) = some u

section
variable {w0 w w' : World} {p q : Piece} {ps qs : List Piece} {e : TypeId} {size n : Nat} {v : Value} {xs : List Value}

theorem Rd.nil (w : World) (size : Nat) : Rd w size (.slice none 0 0) 0 [] := ⟨by simp, none, 0, rfl, Nat.le_refl _, by simp [maxLen], fun _ => ⟨rfl, rfl⟩, by simp⟩
theorem Own.rd (h : Own w0 w (slc e size v n xs :: ps)) : Rd w size v n xs := by
  rcases h.slc_cases with ⟨rfl, rfl, rfl, _⟩ | ⟨g, cap, cur, rfl, hl, h1, h2, h3, h4, h5⟩
  · exact Rd.nil w size
  · refine ⟨hl, _, _, rfl, h1, h2, by simp, ?_⟩
    intro ad had j u hu
    obtain rfl := Option.some.inj had
    rw [Addr.add_lit, Nat.zero_add, h5.cell, ← Array.getElem?_toList]
    rw [← h4, List.getElem?_take] at hu
    split at hu
    · exact hu
    · cases hu
/-- What was there before is read as it was. -/
theorem Rd.keep (h : Rd w size v n xs) (hw : ∀ ad : Addr, (w.cell? ad).isSome → w'.cell? ad = w.cell? ad) : Rd w' size v n xs := by
  obtain ⟨hl, a, c, rfl, h1, h2, h3, h4⟩ := h
  refine ⟨hl, a, c, rfl, h1, h2, h3, fun ad had j u hu => ?_⟩
  have := h4 ad had j u hu
  rw [hw _ (by simp [this])]
  exact this
theorem cell_lt {ad : Addr} (h : (w.cell? ad).isSome) : ad.block < w.heap.size := by
  obtain ⟨u, hu⟩ := Option.isSome_iff_exists.1 h
  exact World.block_lt_of_cell? w ad hu
theorem Rd.below (h : Rd w size v n xs) (hb : Below w.heap.size w w') : Rd w' size v n xs := h.keep fun _ had => hb.cell (cell_lt had)
theorem Rd.old (h : Rd w0 size v n xs) (hb : Own w0 w ps) : Rd w size v n xs := h.below hb.below
theorem Rd.len (h : Rd w size v n xs) : xs.length = n * size := h.1
theorem Rd.shape (h : Rd w size v n xs) : ∃ a c, v = .slice a n c ∧ n ≤ c ∧ c ≤ 9223372036854775807 := by
  obtain ⟨_, a, c, rfl, h1, h2, _⟩ := h
  exact ⟨a, c, rfl, h1, by simpa [maxLen] using h2⟩
/-- The place of a slice that has elements. -/
theorem Rd.at (h : Rd w size v n xs) (hn : 0 < xs.length) : ∃ b o c, v = .slice (some ⟨b, o, none⟩) n c ∧ n ≤ c ∧ c ≤ 9223372036854775807 ∧ ∀ j u, xs[j]? = some u → w.cell? ⟨b, o + j, none⟩ = some u := by
  obtain ⟨hl, a, c, rfl, h1, h2, h3, h4⟩ := h
  cases a with
  | none =>
    obtain ⟨rfl, _⟩ := h3 rfl
    rw [hl, Nat.zero_mul] at hn
    exact absurd hn (by omega)
  | some ad =>
    have h0 := h4 ad rfl 0 _ (List.getElem?_eq_getElem hn)
    have hs : ad.spot = none := by simpa [Addr.add] using World.cell?_spot h0
    obtain ⟨b, o, s⟩ := ad
    simp only at hs
    subst hs
    refine ⟨b, o, c, rfl, h1, by simpa [maxLen] using h2, fun j u hu => ?_⟩
    rw [← Addr.add_lit]
    exact h4 _ rfl j u hu

/-- The block of a slice that we own and that has elements. -/
theorem Own.at (h : Own w0 w (slc e size v n xs :: ps)) (hn : 0 < xs.length) : ∃ g c, v = .slice (some ⟨g, 0, none⟩) n c ∧ n ≤ c ∧ c ≤ 9223372036854775807 ∧ w0.heap.size ≤ g ∧ g < w.heap.size ∧ (∀ j u, xs[j]? = some u → w.cell? ⟨g, j, none⟩ = some u) ∧ ∀ j, w.frozen? ⟨g, j, none⟩ = false := by
  rcases h.slc_cases with ⟨rfl, rfl, rfl, _⟩ | ⟨g, cap, cur, rfl, hl, h1, h2, h3, h4, h5⟩
  · simp at hn
  · refine ⟨g, cap, rfl, h1, by simpa [maxLen] using h2, h5.block.2, (Array.getElem?_eq_some_iff.1 h5.block.1).1, fun j u hu => ?_, fun j => h5.free j⟩
    rw [h5.cell, ← Array.getElem?_toList]
    rw [← h4, List.getElem?_take] at hu
    split at hu
    · exact hu
    · cases hu

variable {P : Program} {t ty : TypeId} {i : TypeInfo} {z : Value} {bytes : Nat}

/-- The source of an append: a slice's cells. -/
theorem run_append_sep (H : Own w0 w (slc e size v n xs :: ps))
    (ht : P.underlying t = some (.slice e)) (hi : P.info? e = some i) (hz : i.zero = some z) (hsize : i.size = size) (hby : i.bytes = bytes) (hzs : z.cells.size = size) (hsz : 0 < size)
    {x : Value} {m : Nat} {news : List Value} (hx : Rd w size x m news) (h1 : ∀ u ∈ news, u.oneCell' = true)
    (h63 : n + m ≤ maxLen) (hbytes : (n + m) * bytes ≤ 140737488355328) :
    ∃ v' w', (Builtin.append_ #[t, t] ty #[v, x]).run P w = .ok v' w' ∧ Own w0 w' (slc e size v' (n + m) (xs ++ news) :: ps) := by
  subst hsize
  subst hby
  obtain ⟨hl, ao, c, rfl, _, _, hnone, hcell⟩ := hx
  have hsmall : n + m ≤ 9223372036854775807 := by simpa [maxLen] using h63
  have hnl := H.slc_len
  have hlen : (xs ++ news).length = (n + m) * i.size := by rw [List.length_append, hnl, hl, Nat.add_mul]
  cases ao with
  | none =>
    obtain ⟨rfl, rfl⟩ := hnone rfl
    have hn0 : news = [] := List.eq_nil_of_length_eq_zero (by simpa using hl)
    subst hn0
    refine ⟨v, w, ?_, by simpa using H⟩
    rcases H.slc_cases with ⟨rfl, rfl, rfl, h5⟩ | ⟨g, cap, cur, rfl, _, hc1, hc2, hc3, hc4, h5⟩
    · simp [Builtin.append_, run_underlying ht, sizeOf, typeInfo, hi, Builtin.lenOf, Builtin.firstCells]
    · simp [Builtin.append_, run_underlying ht, sizeOf, typeInfo, hi, Builtin.lenOf, Builtin.firstCells, hc1, storeCells]
  | some a =>
  have hnews := hcell a rfl
  have grown : ∀ (qs : List Piece), Own w0 w qs → ∀ (old : Nat), old < n + m →
      Own w0 (w.drew.alloc (.cells (xs.toArray ++ news.toArray ++ Builtin.zeroCells z.cells (grownCap w (n + m) old e - (n + m))) e))
        (slc e i.size (.slice (some ⟨w.heap.size, 0, none⟩) (n + m) (grownCap w (n + m) old e)) (n + m) (xs ++ news) :: qs) := by
    intro qs hqs old ho
    have hge := grownCap_ge w (n + m) old e
    have hcm : grownCap w (n + m) old e ≤ maxLen := grownCap_le_maxLen w (n + m) old e h63
    refine (hqs.drew.alloc _).slc_mk hlen hge hcm ?_ ?_
    · simp only [Array.size_append, List.size_toArray, size_zeroCells, hzs, hnl, hl, ← Nat.add_mul]
      congr 1
      omega
    · simp only [Array.toList_append, List.append_assoc]
      rw [← List.append_assoc, ← hlen]
      exact List.take_left
  rcases H.slc_cases with ⟨rfl, rfl, rfl, h5⟩ | ⟨g, cap, cur, rfl, _, hc1, hc2, hc3, hc4, h5⟩
  · by_cases hm : m = 0
    · subst hm
      have hn : news = [] := List.eq_nil_of_length_eq_zero (by simpa using hl)
      subst hn
      refine ⟨.slice none 0 0, w, ?_, by simpa using H⟩
      simp [Builtin.append_, run_underlying ht, sizeOf, typeInfo, hi, Builtin.lenOf, Builtin.firstCells, loadCells, loadCellsFrom]
    · have hr := run_append_nil (P := P) w t ty e i z ht hi hz a m c news hl hnews (by omega) (by omega) (by have hb := hbytes; simp only [Nat.zero_add] at hb; omega)
      have hgr := grown _ h5 0 (by omega)
      simp only [Nat.zero_add, List.nil_append, Array.empty_append] at hgr ⊢
      exact ⟨_, _, hr, hgr⟩
  · by_cases hroom : n + m ≤ cap
    · have hfit : n * i.size + news.length ≤ cur.size := by rw [hl, hc3, ← Nat.add_mul]; exact Nat.mul_le_mul_right _ hroom
      have hr := run_append_room (P := P) w t ty e i ht hi g n cap cur h5.block.1 a m c news hl hnews h1 hroom hfit
      refine ⟨_, _, hr, ?_⟩
      have hset : Own w0 (w.setRow g (cur.toList.take (n * i.size) ++ news ++ cur.toList.drop (n * i.size + news.length)).toArray) (blk g (.cells (cur.toList.take (n * i.size) ++ news ++ cur.toList.drop (n * i.size + news.length)).toArray e) :: ps) :=
        h5.turn rfl rfl rfl (by simp [World.setRow]) (setRow_heap w g cur _ e _ h5.block.1) (fun k _ hk => setRow_other w g k _ hk)
      refine hset.slc_mk hlen hroom hc2 ?_ ?_
      · simp only [List.size_toArray, List.length_append, List.length_take, List.length_drop, Array.length_toList]
        omega
      · rw [hc4, ← hlen]
        exact List.take_left
    · have holds : ∀ j u, xs[j]? = some u → w.cell? ((⟨g, 0, none⟩ : Addr).add j) = some u := by
        obtain ⟨_, _, _, hv, _, _, _, hcl⟩ := H.rd
        cases hv
        exact hcl _ rfl
      have hr := run_append_grow (P := P) w t ty e i z ht hi hz ⟨g, 0, none⟩ n cap xs hnl holds a m c news hl hnews (by omega) (by omega) (growslice_fits (by omega) hbytes)
      exact ⟨_, _, hr, grown _ h5.drop cap (by omega)⟩

/-- 'out = append(out, ..)' in a walk, out the call's own. -/
theorem wpList_append_sep {ops : Array Oper} {rest : List Oper} {o : Oper} {a : Act} {Q : Exit → Act → World → Prop} (hgd : o.guard = none) (s x : Operand)
    (ho : o.op = .call { callee := .builtin .append, args := #[s, x], argTypes := #[t, t] })
    (ht : P.underlying t = some (.slice e)) (hinfo : (P.info? e).map (fun i => (i.zero, i.size, i.bytes)) = some (some z, size, bytes)) (hzs : z.cells.size = size) (hsz : 0 < size)
    (hs : a.eval s = v) (H : Own w0 w (slc e size v n xs :: ps))
    {m : Nat} {news : List Value} (hx : Rd w size (a.eval x) m news) (h1 : ∀ u ∈ news, u.oneCell' = true)
    (h63 : n + m ≤ 9223372036854775807) (hbytes : (n + m) * bytes ≤ 140737488355328)
    (h : ∀ v' w', Own w0 w' (slc e size v' (n + m) (xs ++ news) :: ps) → wpList P ops Q rest (a.put o.dst v') w') : wpList P ops Q (o :: rest) a w := by
  obtain ⟨i, hi, hz, hsize, hby⟩ := info_parts hinfo
  refine wpList_plain hgd fun K hK => ?_
  obtain ⟨v', w', hr, h2⟩ := run_append_sep (P := P) (ty := o.type) H ht hi hz hsize hby hzs hsz hx h1 (by simpa [maxLen] using h63) hbytes
  unfold Oper.wp execOp
  simp only [ho, resolve, invoke, builtin, Sem.run_bind, Sem.run_pure, Result.andThen_ok, List.map_toArray, List.map_cons, List.map_nil, hs, hr]
  exact hK _ _ (h v' w' h2)

/-- 'out = append(out, x)', the one new element in a fresh block (so the walk lays it). -/
theorem wpList_append_one {ops : Array Oper} {rest : List Oper} {o : Oper} {a : Act} {Q : Exit → Act → World → Prop} (hgd : o.guard = none) (s x : Operand)
    (ho : o.op = .call { callee := .builtin .append, args := #[s, x], argTypes := #[t, t] })
    (ht : P.underlying t = some (.slice e)) (hinfo : (P.info? e).map (fun i => (i.zero, i.size, i.bytes)) = some (some z, size, bytes)) (hzs : z.cells.size = size) (hsz : 0 < size)
    (hs : a.eval s = v) (H : Own w0 w (slc e size v n xs :: ps))
    {news : List Value} {c : Nat} (hx : a.eval x = .slice (some ⟨w.heap.size, 0, none⟩) 1 c) (hc : c = 1) (hl : news.length = size) (h1 : ∀ u ∈ news, u.oneCell' = true)
    (h63 : n + 1 ≤ 9223372036854775807) (hbytes : (n + 1) * bytes ≤ 140737488355328)
    (h : ∀ v' w', Own w0 w' (slc e size v' (n + 1) (xs ++ news) :: ps) → wpList P ops Q rest (a.put o.dst v') w') : wpList P ops Q (o :: rest) a (w.alloc (.cells news.toArray e)) := by
  subst hc
  refine wpList_append_sep hgd s x ho ht hinfo hzs hsz hs (H.alloc' _) (m := 1) (news := news) ?_ h1 h63 hbytes h
  rw [hx]
  exact ((H.made news e size 1 (by simpa using hl) (by simp [maxLen])).rd)
end
/-- It returns a value of which R holds. -/
def Ret (R : Value → World → Prop) (e : Ending) (w' : World) : Prop := ∃ v, e = .returned v ∧ R v w'
theorem val_int {k : IntKind} {a b : Int} (h : a = b) : Value.int k a = .int k b := by rw [h]
theorem ints_get (k : IntKind) (xs : List Int) {j : Nat} (h : j < xs.length) : (xs.map (Value.int k))[j]? = some (.int k (xs.getD j 0)) := by
  simp [List.getD, h]
def sliceLen : Value → Nat | .slice _ n _ => n | _ => 0
theorem wf_bounds {a : Int} (h : (Lit.int .i64 a).wf = true) : -9223372036854775808 ≤ a ∧ a ≤ 9223372036854775807 := by
  have h1 : IntKind.i64.min = -9223372036854775808 := rfl
  have h2 : IntKind.i64.max = 9223372036854775807 := rfl
  simp only [Lit.wf, Bool.and_eq_true, decide_eq_true_eq] at h
  omega
end Go.Proofs.Ytljejkdkjnbmhaa
/- What comes in, read: a slice of whatever elements; structs of a few plain fields. No program in sight. -/
namespace Go.Proofs.Ytljejkdkjnbmhaa
open Go.RowKit Go.ChangeShapes Go.WideShapes Go.Deep

section
variable {H : Type} {enc : TypeId × Value → H} {P : Program} {w : World}

/-- A slice that came in: n elements, the cells of the i-th E i, each of which reads as data of the element's type. -/
theorem rd_open {t e : TypeId} {v : Value} {d : DataW H} {p : List MemPlace} (size : Nat) (ht : P.underlying t = some (.slice e)) (hc : P.cellsOf e = size) {a : Option Addr} {len cap : Nat} (hv : v = .slice a len cap)
    (h : DataW.Trod enc P w 0 (fun _ => true) true t v d p) :
    ∃ (E : Nat → List Value), Rd w size v len ((List.range len).flatMap E) ∧ (∀ i, i < len → (E i).length = size ∧ ∃ m x, DataW.trod enc P w 0 (fun _ => true) true m e (E i) = some x) ∧
      (d = .nil ∧ len = 0 ∨ ∃ elems spare, d = .slice elems spare ∧ elems.length = len ∧ spare.length = cap - len) := by
  obtain ⟨fuel, hf⟩ := h
  subst hv
  rcases open_slice ht hf with ⟨hcs, hx⟩ | ⟨ad, len', cap', m, n, D, Pl, hcs, _, hl, hm, hmm, hx, hel⟩
  · simp [Value.cells] at hcs
    obtain ⟨rfl, rfl, rfl⟩ := hcs
    simp only [Prod.mk.injEq] at hx
    exact ⟨fun _ => [], by simpa using Rd.nil w size, fun i hi => by omega, .inl ⟨hx.1, rfl⟩⟩
  · simp [Value.cells] at hcs
    obtain ⟨rfl, rfl, rfl⟩ := hcs
    simp only [if_true] at hmm
    subst hmm
    obtain ⟨E, hE⟩ := choose_lt (α := List Value) (p := fun i cs' => w.cells? 0 (ad.add (i * P.cellsOf e)) (P.cellsOf e) = some cs' ∧ DataW.trod enc P w 0 (fun _ => true) true n e cs' = some (D i, Pl i)) hel
    have hlen : ∀ i, i < m → (E i).length = size := fun i hi => by
      obtain ⟨_, h2, _⟩ := World.cells?_some (hE i hi).1
      rw [← hc]; exact h2
    have hfl : ∀ k, k ≤ m → ((List.range k).flatMap E).length = k * size := by
      intro k
      induction k with
      | zero => intro _; simp
      | succ k ih =>
        intro hk
        rw [List.range_succ, List.flatMap_append, List.length_append, ih (by omega)]
        simp [hlen k (by omega), Nat.add_mul]
    have hget : ∀ k, k ≤ m → ∀ j u, ((List.range k).flatMap E)[j]? = some u → w.cell? (ad.add j) = some u := by
      intro k
      induction k with
      | zero => intro _ j u hu; simp at hu
      | succ k ih =>
        intro hk j u hu
        rw [List.range_succ, List.flatMap_append] at hu
        by_cases hj : j < ((List.range k).flatMap E).length
        · rw [List.getElem?_append_left hj] at hu
          exact ih (by omega) j u hu
        · rw [List.getElem?_append_right (by omega)] at hu
          rw [hfl k (by omega)] at hu hj
          obtain ⟨_, _, h3⟩ := World.cells?_some (hE k (by omega)).1
          have hu' : (E k)[j - k * size]? = some u := by simpa using hu
          have hlt : j - k * size < P.cellsOf e := by
            have := (List.getElem?_eq_some_iff.1 hu').1
            rw [hlen k (by omega)] at this
            rw [hc]; exact this
          have := h3 _ hlt
          rw [hu', hc, add_add] at this
          rw [show k * size + (j - k * size) = j by omega] at this
          exact this
    refine ⟨E, ⟨hfl len hl, _, _, rfl, hl, hm, by simp, fun ad' had => ?_⟩, fun i hi => ⟨hlen i (by omega), n, _, (hE i (by omega)).2⟩, .inr ?_⟩
    · cases had
      exact hget len hl
    · simp only [Prod.mk.injEq] at hx
      exact ⟨_, _, hx.1, by simp, by simp⟩

end
end Go.Proofs.Ytljejkdkjnbmhaa
/- Stores into blocks and slices of the call's own, in a walk: behind each the world is a variable. No program in sight. -/
namespace Go.Proofs.Ytljejkdkjnbmhaa
open Go.RowKit

section
variable {w0 w w' : World} {p q : Piece} {ps qs : List Piece} {e : TypeId} {size n : Nat} {v : Value} {xs : List Value}
variable {P : Program} {t ty : TypeId} {ops : Array Oper} {rest : List Oper} {o : Oper} {a : Act} {Q : Exit → Act → World → Prop}

theorem run_storeAt_row {g off : Nat} {cur : Array Value} {e : TypeId} (x : Value) (hg : w.heap[g]? = some (.cells cur e (0, 0))) (hi : (P.info? ty).map (·.size) = some x.cells.size) (hfit : off + x.cells.size ≤ cur.size) (h1 : ∀ u ∈ x.cells.toList, u.oneCell' = true) :
    (Instr.storeAt ty (.pointer (some ⟨g, off, none⟩)) x).run P w = .ok () (w.setRow g (cur.toList.take off ++ x.cells.toList ++ cur.toList.drop (off + x.cells.size)).toArray) := by
  have hst := run_storeCells_at P g off e x.cells.toList 0 cur w hg (by simpa using hfit) h1
  simp only [Nat.add_zero, Array.length_toList] at hst
  cases hq : P.info? ty with
  | none => simp [hq] at hi
  | some i =>
    have hs : x.cells.size = i.size := by simp [hq] at hi; omega
    simp [Instr.storeAt, Instr.sureAddr, storeVar, sizeOf, typeInfo, hq, hs]
    rw [← hs]
    simpa using hst

theorem Own.setRow {g : Nat} {cur cur' : Array Value} {fr : Nat × Nat} (h : Own w0 w (blk g (.cells cur e fr) :: ps)) : Own w0 (w.setRow g cur') (blk g (.cells cur' e fr) :: ps) :=
  h.turn rfl rfl rfl (by simp [World.setRow]) (setRow_heap w g cur _ e _ h.block.1) (fun k _ hk => setRow_other w g k _ hk)

/-- A store into a block: 'cur'' is what it then holds. -/
theorem wpList_store_blk (hgd : o.guard = none) (x y : Operand) (ho : o.op = .store ty x y) {g off : Nat} {cur : Array Value} (hx : a.eval x = .pointer (some ⟨g, off, none⟩))
    (H : Own w0 w (blk g (.cells cur e) :: ps)) (vs : List Value) (hv : (a.eval y).cells.toList = vs) (hi : (P.info? ty).map (·.size) = some vs.length) (hfit : off + vs.length ≤ cur.size) (h1 : ∀ u ∈ vs, u.oneCell' = true)
    (cur' : Array Value) (hc : (cur.toList.take off ++ vs ++ cur.toList.drop (off + vs.length)).toArray = cur')
    (h : ∀ w', Own w0 w' (blk g (.cells cur' e) :: ps) → wpList P ops Q rest (a.put o.dst undef) w') : wpList P ops Q (o :: rest) a w := by
  refine wpList_plain hgd fun K hK => ?_
  have hl : vs.length = (a.eval y).cells.size := by rw [← hv]; simp
  have hr := run_storeAt_row (P := P) (ty := ty) (a.eval y) H.block.1 (by rw [hi, hl]) (by rw [← hl]; exact hfit) (by rw [hv]; exact h1)
  rw [hv, ← hl, hc] at hr
  unfold Oper.wp execOp
  simp only [ho, hx, Sem.run_bind, Sem.run_pure, Result.andThen_ok, hr]
  exact hK _ _ (h _ H.setRow)

/-- A whole struct (or array) is stored. -/
theorem wpList_store_agg (hgd : o.guard = none) (x y : Operand) (ho : o.op = .store ty x y) {g off : Nat} {cur : Array Value} (hx : a.eval x = .pointer (some ⟨g, off, none⟩))
    (H : Own w0 w (blk g (.cells cur e) :: ps)) {vs : List Value} (hv : a.eval y = .agg vs.toArray) (hi : (P.info? ty).map (·.size) = some vs.length) (hfit : off + vs.length ≤ cur.size) (h1 : ∀ u ∈ vs, u.oneCell' = true)
    {cur' : Array Value} (hc : (cur.toList.take off ++ vs ++ cur.toList.drop (off + vs.length)).toArray = cur')
    (h : ∀ w', Own w0 w' (blk g (.cells cur' e) :: ps) → wpList P ops Q rest (a.put o.dst undef) w') : wpList P ops Q (o :: rest) a w :=
  wpList_store_blk hgd x y ho hx H vs (by rw [hv]; simp [Value.cells]) hi hfit h1 cur' hc h
/-- A value of one cell is stored. -/
theorem wpList_store_one (hgd : o.guard = none) (x y : Operand) (ho : o.op = .store ty x y) {g off : Nat} {cur : Array Value} (hx : a.eval x = .pointer (some ⟨g, off, none⟩))
    (H : Own w0 w (blk g (.cells cur e) :: ps)) {u : Value} (hv : a.eval y = u) (hu : u.cells = #[u]) (hi : (P.info? ty).map (·.size) = some 1) (hfit : off < cur.size) (h1 : u.oneCell' = true)
    {cur' : Array Value} (hc : cur.setIfInBounds off u = cur')
    (h : ∀ w', Own w0 w' (blk g (.cells cur' e) :: ps) → wpList P ops Q rest (a.put o.dst undef) w') : wpList P ops Q (o :: rest) a w :=
  wpList_store_blk hgd x y ho hx H [u] (by rw [hv, hu]) hi (by simp; omega) (by simpa using h1) cur' (by
    rw [← hc, show cur.setIfInBounds off u = (cur.toList.set off u).toArray by apply Array.toList_inj.1; simp, List.set_eq_take_append_cons_drop, if_pos (by simpa using hfit)]
    simp) h

theorem wpList_store_int (hgd : o.guard = none) (x y : Operand) (ho : o.op = .store ty x y) {g off : Nat} {cur : Array Value} (hx : a.eval x = .pointer (some ⟨g, off, none⟩))
    (H : Own w0 w (blk g (.cells cur e) :: ps)) {k : IntKind} {m : Int} (hv : a.eval y = .int k m) (hi : (P.info? ty).map (·.size) = some 1) (hfit : off < cur.size)
    (h : ∀ w', Own w0 w' (blk g (.cells (cur.setIfInBounds off (.int k m)) e) :: ps) → wpList P ops Q rest (a.put o.dst undef) w') : wpList P ops Q (o :: rest) a w :=
  wpList_store_one hgd x y ho hx H hv rfl hi hfit rfl rfl h
theorem wpList_store_bool (hgd : o.guard = none) (x y : Operand) (ho : o.op = .store ty x y) {g off : Nat} {cur : Array Value} (hx : a.eval x = .pointer (some ⟨g, off, none⟩))
    (H : Own w0 w (blk g (.cells cur e) :: ps)) {m : Bool} (hv : a.eval y = .bool m) (hi : (P.info? ty).map (·.size) = some 1) (hfit : off < cur.size)
    (h : ∀ w', Own w0 w' (blk g (.cells (cur.setIfInBounds off (.bool m)) e) :: ps) → wpList P ops Q rest (a.put o.dst undef) w') : wpList P ops Q (o :: rest) a w :=
  wpList_store_one hgd x y ho hx H hv rfl hi hfit rfl rfl h
theorem wpList_store_string (hgd : o.guard = none) (x y : Operand) (ho : o.op = .store ty x y) {g off : Nat} {cur : Array Value} (hx : a.eval x = .pointer (some ⟨g, off, none⟩))
    (H : Own w0 w (blk g (.cells cur e) :: ps)) {m : ByteArray} (hv : a.eval y = .string m) (hi : (P.info? ty).map (·.size) = some 1) (hfit : off < cur.size)
    (h : ∀ w', Own w0 w' (blk g (.cells (cur.setIfInBounds off (.string m)) e) :: ps) → wpList P ops Q rest (a.put o.dst undef) w') : wpList P ops Q (o :: rest) a w :=
  wpList_store_one hgd x y ho hx H hv rfl hi hfit rfl rfl h
theorem wpList_store_ptr (hgd : o.guard = none) (x y : Operand) (ho : o.op = .store ty x y) {g off : Nat} {cur : Array Value} (hx : a.eval x = .pointer (some ⟨g, off, none⟩))
    (H : Own w0 w (blk g (.cells cur e) :: ps)) {m : Option Addr} (hv : a.eval y = .pointer m) (hi : (P.info? ty).map (·.size) = some 1) (hfit : off < cur.size)
    (h : ∀ w', Own w0 w' (blk g (.cells (cur.setIfInBounds off (.pointer m)) e) :: ps) → wpList P ops Q rest (a.put o.dst undef) w') : wpList P ops Q (o :: rest) a w :=
  wpList_store_one hgd x y ho hx H hv rfl hi hfit rfl rfl h
theorem wpList_store_slice (hgd : o.guard = none) (x y : Operand) (ho : o.op = .store ty x y) {g off : Nat} {cur : Array Value} (hx : a.eval x = .pointer (some ⟨g, off, none⟩))
    (H : Own w0 w (blk g (.cells cur e) :: ps)) {m : Option Addr} {l c : Nat} (hv : a.eval y = .slice m l c) (hi : (P.info? ty).map (·.size) = some 1) (hfit : off < cur.size)
    (h : ∀ w', Own w0 w' (blk g (.cells (cur.setIfInBounds off (.slice m l c)) e) :: ps) → wpList P ops Q rest (a.put o.dst undef) w') : wpList P ops Q (o :: rest) a w :=
  wpList_store_one hgd x y ho hx H hv rfl hi hfit rfl rfl h
/-- A store to an element (one cell wide) of a slice of the call's own. -/
theorem wpList_store_slc (hgd : o.guard = none) (x y : Operand) (ho : o.op = .store ty x y) {g j c : Nat} (hx : a.eval x = .pointer (some ⟨g, j, none⟩))
    (H : Own w0 w (slc e 1 (.slice (some ⟨g, 0, none⟩) n c) n xs :: ps)) (u : Value) (hv : (a.eval y).cells.toList = [u]) (hi : (P.info? ty).map (·.size) = some 1) (hj : j < n) (h1 : u.oneCell' = true)
    (h : ∀ w', Own w0 w' (slc e 1 (.slice (some ⟨g, 0, none⟩) n c) n (xs.set j u) :: ps) → wpList P ops Q rest (a.put o.dst undef) w') : wpList P ops Q (o :: rest) a w := by
  rcases H.slc_cases with ⟨hn, _⟩ | ⟨g', cap, cur, he, hl, c1, c2, c3, c4, h5⟩
  · cases hn
  · cases he
    refine wpList_store_blk hgd x y ho hx h5 [u] hv hi (by simp; omega) (by simpa using h1) _ rfl fun w' h' => h w' ?_
    refine h'.slc_mk (by simpa using hl) c1 c2 ?_ ?_
    · simp; omega
    · have hlen : j < cur.toList.length := by simp; omega
      have hset : cur.toList.take j ++ [u] ++ cur.toList.drop (j + [u].length) = cur.toList.set j u := by
        rw [List.set_eq_take_append_cons_drop, if_pos hlen]; simp
      rw [hset, List.toList_toArray, List.take_set, ← c4]
end
end Go.Proofs.Ytljejkdkjnbmhaa
/- Slices of the call's own that begin anywhere in their row (what 'xs = xs[1:]' leaves): append, reslices, stores. No program in sight. -/
namespace Go.Proofs.Ytljejkdkjnbmhaa
open Go.RowKit

/-- A slice that lies in a row of its own, behind o cells that nobody reads: n elements of 'size' cells, the cells xs; or nil. -/
def sld (e : TypeId) (size : Nat) (v : Value) (n : Nat) (xs : List Value) : Piece := fun h =>
  xs.length = n * size ∧ ((v = .slice none 0 0 ∧ n = 0 ∧ h = []) ∨
    ∃ g o cap cur, v = .slice (some ⟨g, o, none⟩) n cap ∧ h = [(g, .cells cur e (0, 0))] ∧ n ≤ cap ∧ cap ≤ maxLen ∧ o + cap * size ≤ cur.size ∧ (cur.toList.drop o).take (n * size) = xs)

section
variable {w0 w w' : World} {p q : Piece} {ps qs : List Piece} {e : TypeId} {size n : Nat} {v : Value} {xs : List Value}

variable {P : Program} {t ty : TypeId} {i : TypeInfo} {z : Value} {bytes : Nat}

end
section
variable {w : World} {size n : Nat} {xs : List Value}
/-- The tail of what is read. -/
theorem Rd.tail {ad : Addr} {cap k : Nat} (h : Rd w size (.slice (some ad) n cap) n xs) (hk : k ≤ n) : Rd w size (.slice (some (ad.add (k * size))) (n - k) (cap - k)) (n - k) (xs.drop (k * size)) := by
  obtain ⟨hl, a, c, e, h1, h2, h3, h4⟩ := h
  cases e
  have e1 : (n - k) * size = n * size - k * size := Nat.sub_mul ..
  refine ⟨by rw [List.length_drop, hl, e1], _, _, rfl, by omega, by omega, by simp, fun ad' had j u hu => ?_⟩
  cases had
  rw [List.getElem?_drop] at hu
  rw [Go.Deep.add_add]
  exact h4 _ rfl _ _ hu
/-- A beginning of what is read. -/
theorem Rd.take {ao : Option Addr} {cap k : Nat} (h : Rd w size (.slice ao n cap) n xs) (hk : k ≤ n) : Rd w size (.slice ao k cap) k (xs.take (k * size)) := by
  obtain ⟨hl, a, c, e, h1, h2, h3, h4⟩ := h
  cases e
  have e3 := Nat.mul_le_mul_right size hk
  refine ⟨by rw [List.length_take, hl]; omega, _, _, rfl, by omega, h2, fun hn => ⟨by have := h3 hn; omega, (h3 hn).2⟩, fun ad' had j u hu => ?_⟩
  rw [List.getElem?_take] at hu
  split at hu
  · exact h4 _ had _ _ hu
  · cases hu
end
section
variable {w0 w : World} {ps : List Piece} {e : TypeId} {size n : Nat} {xs : List Value}
end
end Go.Proofs.Ytljejkdkjnbmhaa
/- Rows that are read, cell by cell; texts. No program in sight. -/
namespace Go.Proofs.Ytljejkdkjnbmhaa
open Go.RowKit

section
variable {w w0 w' : World} {size n : Nat} {xs : List Value} {v : Value} {ps : List Piece}
theorem Rd.cell {b o c j : Nat} {u : Value} (h : Rd w size (.slice (some ⟨b, o, none⟩) n c) n xs) (hu : xs[j]? = some u) : w.cell? ⟨b, o + j, none⟩ = some u := by
  obtain ⟨_, a, c, e, _, _, _, h4⟩ := h
  cases e
  rw [← Addr.add_lit]
  exact h4 _ rfl j u hu
theorem Rd.some (h : Rd w size v n xs) (hn : 0 < xs.length) : ∃ b o c, v = .slice (some ⟨b, o, none⟩) n c ∧ n ≤ c ∧ c ≤ 9223372036854775807 := by
  obtain ⟨b, o, c, e, h1, h2, _⟩ := h.at hn
  exact ⟨b, o, c, e, h1, h2⟩
end

/-- Texts, as cells. -/
def txs (l : List ByteArray) : List Value := l.map .string
/-- Ints, as cells. -/
def nums (l : List Int) : List Value := l.map (.int .i64)
theorem nums_length (l : List Int) : (nums l).length = l.length := by simp [nums]
theorem nums_get {l : List Int} {k : Nat} {s : Int} (h : l[k]? = some s) : (nums l)[k]? = some (.int .i64 s) := by simp [nums, h]
theorem get_of_lt {α : Type _} {l : List α} {k : Nat} (h : k < l.length) : ∃ x, l[k]? = some x := ⟨l[k], List.getElem?_eq_getElem h⟩
theorem loopL (b : ByteArray) : ∀ (k i : Nat) (r : List UInt8), i + k = b.size → ByteArray.toList.loop b i r = r.reverse ++ b.data.toList.drop i := by
  intro k
  induction k with
  | zero =>
    intro i r h
    rw [ByteArray.toList.loop]
    have : b.data.toList.length ≤ i := by simp; exact (by show b.size ≤ i; omega)
    rw [if_neg (by omega), List.drop_eq_nil_of_le this, List.append_nil]
  | succ k ih =>
    intro i r h
    rw [ByteArray.toList.loop, if_pos (by omega), ih (i + 1) _ (by omega)]
    have hl : i < b.data.toList.length := by simp; exact (by show i < b.size; omega)
    rw [List.drop_eq_getElem_cons hl]
    have hg : b.get! i = b.data.toList[i] := by
      show b.data[i]! = _
      rw [getElem!_pos b.data i (by simpa using hl)]
      simp
    simp [hg]
theorem str_data (b : ByteArray) : b.toList = b.data.toList := by
  rw [ByteArray.toList, loopL b b.size 0 [] (by omega)]
  simp
end Go.Proofs.Ytljejkdkjnbmhaa
/- A store to a cell of a slice of the call's own, its elements of any width. No program in sight. -/
namespace Go.Proofs.Ytljejkdkjnbmhaa
open Go.RowKit

section
variable {w0 w w' : World} {p q : Piece} {ps qs : List Piece} {e : TypeId} {size n : Nat} {v : Value} {xs : List Value}
variable {P : Program} {t ty : TypeId} {ops : Array Oper} {rest : List Oper} {o : Oper} {a : Act} {Q : Exit → Act → World → Prop}

end
end Go.Proofs.Ytljejkdkjnbmhaa
/- Rows of structs: lists of things of k cells each. No program in sight. -/
namespace Go.Proofs.Ytljejkdkjnbmhaa
open Go.RowKit

section
variable {α : Type} (f : α → List Value) {k : Nat}
def rows (l : List α) : List Value := l.flatMap f
theorem rows_cons (x : α) (l : List α) : rows f (x :: l) = f x ++ rows f l := rfl
theorem rows_append (a b : List α) : rows f (a ++ b) = rows f a ++ rows f b := by simp [rows]
theorem rows_one (x : α) : rows f [x] = f x := by simp [rows]
variable (hf : ∀ x, (f x).length = k)
include hf
theorem rows_length (l : List α) : (rows f l).length = l.length * k := by
  induction l with
  | nil => simp [rows]
  | cons x l ih => rw [rows_cons, List.length_append, ih, hf, List.length_cons, Nat.add_mul]; omega
theorem rows_drop (l : List α) (i : Nat) : (rows f l).drop (i * k) = rows f (l.drop i) := by
  induction l generalizing i with
  | nil => simp [rows]
  | cons x l ih =>
    cases i with
    | zero => simp
    | succ i =>
      rw [rows_cons, List.drop_succ_cons, ← ih, Nat.add_mul, Nat.one_mul, Nat.add_comm, ← List.drop_drop, List.drop_left' (hf x)]
theorem rows_take (l : List α) (i : Nat) : (rows f l).take (i * k) = rows f (l.take i) := by
  induction l generalizing i with
  | nil => simp [rows]
  | cons x l ih =>
    cases i with
    | zero => simp [rows]
    | succ i =>
      rw [rows_cons, List.take_succ_cons, rows_cons, ← ih, Nat.add_mul, Nat.one_mul, Nat.add_comm, ← hf x, List.take_length_add_append]
theorem rows_get {l : List α} {i : Nat} {x : α} (h : l[i]? = some x) (j : Nat) (hj : j < k) : (rows f l)[i * k + j]? = (f x)[j]? := by
  rw [← List.getElem?_drop, rows_drop f hf]
  obtain ⟨hi, rfl⟩ := List.getElem?_eq_some_iff.1 h
  rw [List.drop_eq_getElem_cons hi, rows_cons, List.getElem?_append_left (by rw [hf]; exact hj)]
theorem rows_set {l : List α} {i : Nat} (hi : i < l.length) (y : α) : rows f (l.set i y) = (rows f l).take (i * k) ++ f y ++ (rows f l).drop (i * k + k) := by
  rw [List.set_eq_take_append_cons_drop, if_pos hi, rows_append, rows_cons, rows_take f hf, List.append_assoc]
  congr 2
  rw [show i * k + k = (i + 1) * k by rw [Nat.add_mul, Nat.one_mul], rows_drop f hf]
end

section
variable {w0 w w' : World} {ps : List Piece} {e : TypeId} {size n : Nat} {v : Value} {xs : List Value}
variable {P : Program} {ty : TypeId} {ops : Array Oper} {rest : List Oper} {o : Oper} {a : Act} {Q : Exit → Act → World → Prop}
/-- A store of a whole element. -/
theorem wpList_store_elem (hgd : o.guard = none) (x y : Operand) (ho : o.op = .store ty x y) {g i c : Nat} (hx : a.eval x = .pointer (some ⟨g, i * size, none⟩))
    (H : Own w0 w (slc e size (.slice (some ⟨g, 0, none⟩) n c) n xs :: ps)) (vs : List Value) (hv : (a.eval y).cells.toList = vs) (hi : (P.info? ty).map (·.size) = some vs.length) (hl : vs.length = size) (hj : i < n) (h1 : ∀ u ∈ vs, u.oneCell' = true)
    (h : ∀ w', Own w0 w' (slc e size (.slice (some ⟨g, 0, none⟩) n c) n (xs.take (i * size) ++ vs ++ xs.drop (i * size + size)) :: ps) → wpList P ops Q rest (a.put o.dst undef) w') : wpList P ops Q (o :: rest) a w := by
  rcases H.slc_cases with ⟨hn, _⟩ | ⟨g', cap, cur, he, hxl, c1, c2, c3, c4, h5⟩
  · cases hn
  · cases he
    have h3 := Nat.mul_le_mul_right size c1
    have h4 : (i + 1) * size ≤ n * size := Nat.mul_le_mul_right size hj
    rw [Nat.add_mul, Nat.one_mul] at h4
    refine wpList_store_blk hgd x y ho hx h5 vs hv hi (by omega) h1 _ rfl fun w' h' => h w' ?_
    have hcl : cur.toList.length = cur.size := by simp
    refine h'.slc_mk (by simp only [List.length_append, List.length_take, List.length_drop]; omega) c1 c2 ?_ ?_
    · simp only [List.size_toArray, List.length_append, List.length_take, List.length_drop]; omega
    · rw [← c4, List.take_append, List.take_append, List.take_take, List.take_take, List.drop_take]
      simp only [List.length_take, List.length_append, Nat.min_eq_left (show i * size ≤ n * size by omega)]
      rw [show min (i * size) cur.toList.length = i * size by omega, List.take_of_length_le (l := vs) (by omega), hl, show min (n * size) (i * size) = i * size by omega]
end
theorem Own.slc_take {w0 w : World} {ps : List Piece} {e : TypeId} {size n k g c : Nat} {xs : List Value} (h : Own w0 w (slc e size (.slice (some ⟨g, 0, none⟩) n c) n xs :: ps)) (hk : k ≤ n) :
    Own w0 w (slc e size (.slice (some ⟨g, 0, none⟩) k c) k (xs.take (k * size)) :: ps) := by
  rcases h.slc_cases with ⟨hv, _⟩ | ⟨g', cap, cur, hv, hl, h1, h2, h3, h4, h5⟩
  · cases hv
  · cases hv
    have h6 := Nat.mul_le_mul_right size hk
    refine h5.slc_mk (by rw [List.length_take, hl]; omega) (by omega) h2 h3 ?_
    rw [← h4, List.take_take, Nat.min_eq_left h6]
end Go.Proofs.Ytljejkdkjnbmhaa
/- What comes in: ints; texts. -/
namespace Go.Proofs.Ytljejkdkjnbmhaa
open Go.RowKit Go.ChangeShapes Go.WideShapes Go.Deep

theorem flatMap_one' {α β : Type _} (g : α → β) (l : List α) : (l.flatMap fun i => [g i]) = l.map g := by
  induction l with
  | nil => rfl
  | cons x l ih => simp [ih]
section
variable {H : Type} {enc : TypeId × Value → H} {W : World} {a : Option Addr} {len cap : Nat} {d : DataW H} {p : List MemPlace}
theorem open_nums (h : DataW.Trod enc Try.prog W 0 (fun _ => true) true 30 (.slice a len cap) d p) :
    ∃ L : List Int, L.length = len ∧ (∀ x ∈ L, -9223372036854775808 ≤ x ∧ x ≤ 9223372036854775807) ∧ Rd W 1 (.slice a len cap) L.length (nums L) := by
  obtain ⟨E, hr, hE, _⟩ := rd_open 1 Try.underlying30 (by kernel_rfl) rfl h
  obtain ⟨f, hf⟩ := choose_lt (α := Int) (p := fun i x => E i = [.int .i64 x] ∧ -9223372036854775808 ≤ x ∧ x ≤ 9223372036854775807) (fun i hi => by
    obtain ⟨_, m, x, hx⟩ := hE i hi
    obtain ⟨s, hs, _, ws⟩ := DataW.trod_int Try.underlying3 hx
    exact ⟨s, hs, wf_bounds ws⟩)
  refine ⟨(List.range len).map f, by simp, fun x hx => ?_, ?_⟩
  · obtain ⟨i, hi, rfl⟩ := List.mem_map.1 hx
    exact (hf i (List.mem_range.1 hi)).2
  · have e : nums ((List.range len).map f) = (List.range len).flatMap E := by
      have h1 : (List.range len).flatMap E = (List.range len).flatMap fun i => [.int .i64 (f i)] := flatMap_congr_range fun i hi => (hf i hi).1
      rw [h1, flatMap_one']
      simp [nums]
    rw [e]
    simpa using hr
end
end Go.Proofs.Ytljejkdkjnbmhaa
/- Stable sorts, plainly: sorted lists, lists that are alike key by key. No program in sight. -/
namespace Go.Proofs.Ytljejkdkjnbmhaa

section
variable {α : Type} (key : α → Int)
/-- Sorted by the key. -/
def Srt (l : List α) : Prop := l.Pairwise fun x y => key x ≤ key y
/-- Alike, key by key. -/
def StEq (l m : List α) : Prop := ∀ k : Int, l.filter (fun x => decide (key x = k)) = m.filter (fun x => decide (key x = k))
variable {key}
theorem StEq.refl (l : List α) : StEq key l l := fun _ => rfl
theorem StEq.symm {l m : List α} (h : StEq key l m) : StEq key m l := fun k => (h k).symm
theorem StEq.trans {l m n : List α} (h : StEq key l m) (g : StEq key m n) : StEq key l n := fun k => (h k).trans (g k)
theorem StEq.app {a b c d : List α} (h : StEq key a b) (g : StEq key c d) : StEq key (a ++ c) (b ++ d) := fun k => by
  rw [List.filter_append, List.filter_append, h k, g k]
/-- Two neighbours change places, where the first are all greater. -/
theorem StEq.turn {x y : List α} (h : ∀ a ∈ x, ∀ b ∈ y, key b < key a) : StEq key (x ++ y) (y ++ x) := fun k => by
  rw [List.filter_append, List.filter_append]
  by_cases hx : ∃ a ∈ x, key a = k
  · obtain ⟨a, ha, hk⟩ := hx
    have : y.filter (fun z => decide (key z = k)) = [] := List.filter_eq_nil_iff.2 fun b hb => by
      have := h a ha b hb
      simp; omega
    rw [this]; simp
  · have : x.filter (fun z => decide (key z = k)) = [] := List.filter_eq_nil_iff.2 fun b hb => by
      simp only [decide_eq_true_eq]
      exact fun e => hx ⟨b, hb, e⟩
    rw [this]; simp
theorem StEq.mem {l m : List α} (h : StEq key l m) {x : α} (hx : x ∈ l) : x ∈ m := by
  have : x ∈ l.filter (fun z => decide (key z = key x)) := List.mem_filter.2 ⟨hx, by simp⟩
  rw [h] at this
  exact (List.mem_filter.1 this).1
theorem StEq.nil {l : List α} (h : StEq key [] l) : l = [] := by
  cases l with
  | nil => rfl
  | cons a l => have := h.symm.mem (x := a) (by simp); simp at this
theorem Srt.app {a b : List α} (ha : Srt key a) (hb : Srt key b) (h : ∀ x ∈ a, ∀ y ∈ b, key x ≤ key y) : Srt key (a ++ b) := List.pairwise_append.2 ⟨ha, hb, h⟩
theorem Srt.left {a b : List α} (h : Srt key (a ++ b)) : Srt key a := (List.pairwise_append.1 h).1
theorem Srt.right {a b : List α} (h : Srt key (a ++ b)) : Srt key b := (List.pairwise_append.1 h).2.1
theorem Srt.across {a b : List α} (h : Srt key (a ++ b)) : ∀ x ∈ a, ∀ y ∈ b, key x ≤ key y := (List.pairwise_append.1 h).2.2
/-- There is but one. -/
theorem StEq.unique : ∀ {l m : List α}, Srt key l → Srt key m → StEq key l m → l = m := by
  intro l
  induction l with
  | nil => intro m _ _ h; exact h.nil.symm
  | cons a l ih =>
    intro m hl hm h
    cases m with
    | nil => have := h.symm.nil; cases this
    | cons b m =>
      have hab : key a = key b := by
        have h1 := h.mem (x := a) (by simp)
        have h2 := h.symm.mem (x := b) (by simp)
        have k1 : key b ≤ key a := by
          rcases List.mem_cons.1 h1 with e | h1
          · rw [e]; exact Int.le_refl _
          · exact (List.pairwise_cons.1 hm).1 a h1
        have k2 : key a ≤ key b := by
          rcases List.mem_cons.1 h2 with e | h2
          · rw [e]; exact Int.le_refl _
          · exact (List.pairwise_cons.1 hl).1 b h2
        omega
      have hk := h (key a)
      rw [List.filter_cons_of_pos (by simp), List.filter_cons_of_pos (by simp [hab])] at hk
      injection hk with e1 e2
      subst e1
      rw [ih (List.pairwise_cons.1 hl).2 (List.pairwise_cons.1 hm).2 (fun k => ?_)]
      have hk' := h k
      by_cases he : key a = k
      · rw [List.filter_cons_of_pos (by simp [he]), List.filter_cons_of_pos (by simp [he])] at hk'
        injection hk'
      · rwa [List.filter_cons_of_neg (by simpa using he), List.filter_cons_of_neg (by simpa using he)] at hk'
theorem StEq.perm : ∀ {l m : List α}, StEq key l m → l.Perm m := by
  intro l
  induction l with
  | nil => intro m h; rw [h.nil]
  | cons a l ih =>
    intro m h
    have hk := h (key a)
    rw [List.filter_cons_of_pos (by simp)] at hk
    obtain ⟨s, t, rfl, hs, _, ht⟩ := List.filter_eq_cons_iff.1 hk.symm
    refine ((ih (fun k => ?_)).cons a).trans List.perm_middle.symm
    have hk' := h k
    rw [List.filter_append] at hk' ⊢
    by_cases he : key a = k
    · rw [List.filter_cons_of_pos (by simp [he]), List.filter_cons_of_pos (by simp [he])] at hk'
      have hs0 : s.filter (fun x => decide (key x = k)) = [] := List.filter_eq_nil_iff.2 fun x hx => by
        have := hs x hx
        rw [he] at this
        exact this
      rw [hs0, List.nil_append] at hk' ⊢
      injection hk'
    · rwa [List.filter_cons_of_neg (by simpa using he), List.filter_cons_of_neg (by simpa using he)] at hk'
theorem StEq.length {l m : List α} (h : StEq key l m) : l.length = m.length := h.perm.length_eq

/-- The sort. -/
def insF (key : α → Int) (x : α) : List α → List α
  | [] => [x]
  | y :: l => if key x < key y then x :: y :: l else y :: insF key x l
def sortF (key : α → Int) (l : List α) : List α := l.foldl (fun r x => insF key x r) []
theorem insF_mem {x y : α} : ∀ {l : List α}, y ∈ insF key x l → y = x ∨ y ∈ l := by
  intro l
  induction l with
  | nil => intro h; simp [insF] at h; exact .inl h
  | cons z l ih =>
    intro h
    unfold insF at h
    split at h
    · simp at h; rcases h with h | h | h
      · exact .inl h
      · exact .inr (by simp [h])
      · exact .inr (by simp [h])
    · rcases List.mem_cons.1 h with h | h
      · exact .inr (by simp [h])
      · rcases ih h with h | h
        · exact .inl h
        · exact .inr (by simp [h])
theorem insF_srt {x : α} : ∀ {l : List α}, Srt key l → Srt key (insF key x l) := by
  intro l
  induction l with
  | nil => intro _; exact List.pairwise_singleton ..
  | cons y l ih =>
    intro h
    have h' := List.pairwise_cons.1 h
    unfold insF
    split
    · next hlt =>
      refine List.pairwise_cons.2 ⟨fun z hz => ?_, h⟩
      rcases List.mem_cons.1 hz with rfl | hz
      · omega
      · have := h'.1 z hz; omega
    · next hlt =>
      refine List.pairwise_cons.2 ⟨fun z hz => ?_, ih h'.2⟩
      rcases insF_mem hz with rfl | hz
      · omega
      · exact h'.1 z hz
theorem insF_alike {x : α} : ∀ {l : List α}, Srt key l → StEq key (l ++ [x]) (insF key x l) := by
  intro l
  induction l with
  | nil => intro _; exact StEq.refl _
  | cons y l ih =>
    intro h
    have h' := List.pairwise_cons.1 h
    unfold insF
    split
    · next hlt =>
      have := StEq.turn (key := key) (x := y :: l) (y := [x]) (fun a ha b hb => by
        simp at hb; subst hb
        rcases List.mem_cons.1 ha with rfl | ha
        · exact hlt
        · have := h'.1 a ha; omega)
      simpa using this
    · exact (StEq.refl [y]).app (ih h'.2)
theorem sortF_law (l : List α) : Srt key (sortF key l) ∧ StEq key l (sortF key l) := by
  unfold sortF
  have key2 : ∀ (l r : List α), Srt key r → Srt key (l.foldl (fun r x => insF key x r) r) ∧ StEq key (r ++ l) (l.foldl (fun r x => insF key x r) r) := by
    intro l
    induction l with
    | nil => intro r hr; exact ⟨hr, by rw [List.append_nil]; exact StEq.refl _⟩
    | cons x l ih =>
      intro r hr
      obtain ⟨h1, h2⟩ := ih (insF key x r) (insF_srt hr)
      refine ⟨h1, StEq.trans ?_ h2⟩
      have := (insF_alike (x := x) hr).app (StEq.refl (key := key) l)
      simpa using this
  exact key2 l [] List.Pairwise.nil
theorem sortF_unique {l m : List α} (h1 : Srt key m) (h2 : StEq key l m) : m = sortF key l :=
  StEq.unique h1 (sortF_law l).1 (h2.symm.trans (sortF_law l).2)

/-- Sorted in blocks of so many. -/
def Blk (key : α → Int) (b : Nat) (l : List α) : Prop := ∀ i j x y, i < j → i / b = j / b → l[i]? = some x → l[j]? = some y → key x ≤ key y
/-- The merge's law: two sorted parts become one. -/
def Mrg (key : α → Int) (x y z : List α) : Prop := Srt key z ∧ StEq key (x ++ y) z
theorem Mrg.two {x1 x2 y1 y2 m1 m2 : List α} (h1 : Mrg key x1 y1 m1) (h2 : Mrg key x2 y2 m2) (hx : Srt key (x1 ++ x2)) (hy : Srt key (y1 ++ y2)) (ha : ∀ a ∈ x2, ∀ b ∈ y1, key b < key a) (hb : ∀ a ∈ x1, ∀ b ∈ y2, key a ≤ key b) :
    Mrg key (x1 ++ x2) (y1 ++ y2) (m1 ++ m2) := by
  constructor
  · refine h1.1.app h2.1 fun a ha' b hb' => ?_
    have ha' := h1.2.symm.mem ha'
    have hb' := h2.2.symm.mem hb'
    rcases List.mem_append.1 ha' with ha' | ha' <;> rcases List.mem_append.1 hb' with hb' | hb'
    · exact hx.across a ha' b hb'
    · exact hb a ha' b hb'
    · have := ha b hb' a ha'; omega
    · exact hy.across a ha' b hb'
  · refine StEq.trans ?_ (h1.2.app h2.2)
    have := (StEq.refl (key := key) x1).app ((StEq.turn ha).app (StEq.refl y2))
    simpa using this
theorem Mrg.left {x : List α} (h : Srt key x) : Mrg key x [] x := ⟨h, by rw [List.append_nil]; exact StEq.refl _⟩
theorem Mrg.right {y : List α} (h : Srt key y) : Mrg key [] y y := ⟨h, StEq.refl _⟩
/-- One goes between. -/
theorem Mrg.one_left {x : α} {y1 y2 : List α} (hy : Srt key (y1 ++ y2)) (h1 : ∀ b ∈ y1, key b < key x) (h2 : ∀ b ∈ y2, key x ≤ key b) : Mrg key [x] (y1 ++ y2) (y1 ++ x :: y2) := by
  constructor
  · refine hy.left.app (List.pairwise_cons.2 ⟨h2, hy.right⟩) fun a ha b hb => ?_
    rcases List.mem_cons.1 hb with rfl | hb
    · have := h1 a ha; omega
    · exact hy.across a ha b hb
  · have := (StEq.turn (key := key) (x := [x]) (y := y1) (fun a ha b hb => by simp at ha; subst ha; exact h1 b hb)).app (StEq.refl y2)
    simpa using this
theorem Mrg.one_right {y : α} {x1 x2 : List α} (hx : Srt key (x1 ++ x2)) (h1 : ∀ b ∈ x1, key b ≤ key y) (h2 : ∀ b ∈ x2, key y < key b) : Mrg key (x1 ++ x2) [y] (x1 ++ y :: x2) := by
  constructor
  · refine hx.left.app (List.pairwise_cons.2 ⟨fun b hb => by have := h2 b hb; omega, hx.right⟩) fun a ha b hb => ?_
    rcases List.mem_cons.1 hb with rfl | hb
    · exact h1 a ha
    · exact hx.across a ha b hb
  · have := (StEq.refl (key := key) x1).app (StEq.turn (key := key) (x := x2) (y := [y]) (fun a ha b hb => by simp at hb; subst hb; exact h2 a ha))
    simpa using this
end
def cmpI (a b : Int) : Int := if a < b then -1 else if b < a then 1 else 0
theorem cmpI_lt (a b : Int) : decide (cmpI a b < 0) = decide (a < b) := by
  unfold cmpI
  split
  · simp [*]
  · split <;> simp [*]
theorem last_split {α : Type} (l : List α) (h : 0 < l.length) : ∃ a x, l = a ++ [x] := by
  refine ⟨l.dropLast, l.getLast (by intro e; subst e; simp at h), ?_⟩
  exact (List.dropLast_concat_getLast _).symm
def headIs (id : Nat) : Code → Bool
  | .region i _ _ => i == id
  | .seq a _ => headIs id a
  | _ => false
/-- Of a text, from a region on. -/
def fromR (id : Nat) : Code → Option Code
  | .seq a b => if headIs id a then some (.seq a b) else match fromR id a with
    | some c => some c
    | none => fromR id b
  | .cond _ a b => match fromR id a with
    | some c => some c
    | none => fromR id b
  | .block _ c => fromR id c
  | .loop c => fromR id c
  | .scope c => fromR id c
  | _ => none
end Go.Proofs.Ytljejkdkjnbmhaa
/- A region that draws its order, all of whose operations but the last few yield values that are known, and keep a condition S on the world ('calm'): calls too. Then the order does not matter. No program in sight. -/
namespace Go.Proofs.Ytljejkdkjnbmhaa

/-- The operation waits for the k-th. -/
def waits (o : Oper) (k : Nat) : Bool := o.after.any fun e => Region.binds .any e && e.on == k
def isSelect : Op → Bool | .select _ _ => true | _ => false

/-- What the new ones write nobody ahead of the n-th looks at. -/
def newOk (ops : Array Oper) (n : Nat) (nw : List Nat) : Bool :=
  nw.all fun k => decide (k < n) && match ops[k]? with
    | none => true
    | some ok => ok.guard.isNone && match ok.dst with
      | none => true
      | some d => (List.range n).all fun j => match ops[j]? with
        | none => true
        | some oj => !(oj.looksAt ops).contains d

/-- The ones that may be taken ahead, in their order: they wait for nobody but one another. -/
def preOk (ops : Array Oper) (n : Nat) (nw : List Nat) : List Nat → List Nat → Bool
  | _, [] => true
  | done, p :: r => decide (p < n) && !nw.contains p && !done.contains p && (match ops[p]? with
    | none => false
    | some o => o.guard.isNone && o.after.all fun e => !Region.binds .any e || done.contains e.on) && preOk ops n nw (p :: done) r

/-- What is asked of a region's text: whoever reads what another one writes waits for it, or is waited for by it; the operations from n on come last, in their order. -/
def calmOk (ops : Array Oper) (n : Nat) (nw : List Nat := []) (pre : List Nat := []) : Bool :=
  decide (n ≤ ops.size) && (newOk ops n nw && preOk ops n nw [] pre) &&
  (List.range ops.size).all fun j => match ops[j]? with
    | none => true
    | some oj => !isSelect oj.op && oj.after.all (fun e => !Region.binds .any e || decide (e.on < j)) &&
      (decide (n ≤ j) || (List.range n).all fun k => match ops[k]? with
        | none => true
        | some ok => match ok.dst with
          | none => true
          | some d => if k = j then !(oj.looksAt ops).contains d else oj.dst != some d && (!(oj.looksAt ops).contains d || (if k < j then waits oj k else waits ok j))) &&
      (decide (j ≠ n) || (List.range n).all fun i => pre.contains i || (List.range (n + 1)).any fun k => decide (i < k) && match ops[k]? with | none => false | some ok => waits ok i) &&
      (decide (j ≤ n) || waits oj (j - 1))

abbrev Sig := Nat → Option Value
def Sig.upd (σ : Sig) (i : Nat) (v : Value) : Sig := fun k => if k = i then some v else σ k
def Sig.no : Sig := fun _ => none

/-- In every world that meets S the operation yields v, and S holds behind it. -/
def Calm1 (P : Program) (S : Sig → World → Prop) (o : Oper) (a : Act) (v : Value) : Prop :=
  ∀ σ w, S σ w → ∀ (K : Act → World → Prop) (Q : Exit → Act → World → Prop), (∀ w', S σ w' → K (a.put o.dst v) w') → o.wp P a w K Q
/-- In every world that meets S the operation yields something new, of which S then speaks. -/
def New1 (P : Program) (S : Sig → World → Prop) (i : Nat) (o : Oper) (a : Act) : Prop :=
  ∀ σ w, S σ w → ∀ (K : Act → World → Prop) (Q : Exit → Act → World → Prop), (∀ v w', S (σ.upd i v) w' → K (a.put o.dst v) w') → o.wp P a w K Q

def calm (P : Program) (ops : Array Oper) (S : Sig → World → Prop) (nw : List Nat) (R : Act → Prop) : Nat → List Oper → Act → Prop
  | _, [], a => R a
  | i, o :: rest, a => (i ∈ nw ∧ New1 P S i o a ∧ calm P ops S nw R (i + 1) rest a) ∨
      (i ∉ nw ∧ Region.wanted o (yielded ops a.tmps) = true ∧ ∃ v, Calm1 P S o a v ∧ calm P ops S nw R (i + 1) rest (a.put o.dst v)) ∨
      (i ∉ nw ∧ Region.wanted o (yielded ops a.tmps) = false ∧ calm P ops S nw R (i + 1) rest (a.put o.dst undef))

section
variable {P : Program} {ops : Array Oper} {S : Sig → World → Prop} {nw : List Nat} {R : Act → Prop} {a : Act} {o : Oper} {rest : List Oper} {i : Nat}
theorem calm_nil (h : R a) : calm P ops S nw R i [] a := h
theorem calm_step (v : Value) (hi : i ∉ nw) (hw : Region.wanted o (yielded ops a.tmps) = true)
    (h1 : ∀ σ w, S σ w → ∀ (K : Act → World → Prop) (Q : Exit → Act → World → Prop), (∀ w', S σ w' → K (a.put o.dst v) w') → o.wp P a w K Q) (h : calm P ops S nw R (i + 1) rest (a.put o.dst v)) : calm P ops S nw R i (o :: rest) a := .inr (.inl ⟨hi, hw, v, h1, h⟩)
theorem calm_skip (hi : i ∉ nw) (hw : Region.wanted o (yielded ops a.tmps) = false)
    (h : calm P ops S nw R (i + 1) rest (a.put o.dst undef)) : calm P ops S nw R i (o :: rest) a := .inr (.inr ⟨hi, hw, h⟩)
theorem calm_new (hi : i ∈ nw)
    (h1 : ∀ σ w, S σ w → ∀ (K : Act → World → Prop) (Q : Exit → Act → World → Prop), (∀ v w', S (σ.upd i v) w' → K (a.put o.dst v) w') → o.wp P a w K Q) (h : calm P ops S nw R (i + 1) rest a) : calm P ops S nw R i (o :: rest) a := .inl ⟨hi, h1, h⟩
end

/-- The frames of the text's own order. -/
def frames : List (Option Tmp × Value) → Act → Act
  | [], a => a
  | (d, v) :: r, a => frames r (a.put d v)

theorem frames_snoc (l : List (Option Tmp × Value)) (x : Option Tmp × Value) (a : Act) : frames (l ++ [x]) a = (frames l a).put x.1 x.2 := by
  induction l generalizing a with
  | nil => rfl
  | cons y l ih => exact ih _

section
variable {P : Program} {ops : Array Oper} {S : Sig → World → Prop} {nw : List Nat}

/-- Of each operation what it writes, but for the new ones. -/
def dets (nw : List Nat) (i : Nat) : List Oper → List (Option Tmp)
  | [] => []
  | o :: r => (if i ∈ nw then none else o.dst) :: dets nw (i + 1) r
theorem dets_length (nw : List Nat) : ∀ (l : List Oper) (i : Nat), (dets nw i l).length = l.length
  | [], _ => rfl
  | _ :: l, i => by simp [dets, dets_length nw l (i + 1)]
theorem dets_get (nw : List Nat) : ∀ (l : List Oper) (i k : Nat), (dets nw i l)[k]? = (l[k]?).map fun o => if i + k ∈ nw then none else o.dst
  | [], _, _ => by simp [dets]
  | o :: l, i, 0 => by simp [dets]
  | o :: l, i, k + 1 => by
    have := dets_get nw l (i + 1) k
    simp only [dets, List.getElem?_cons_succ, this]
    rw [show i + 1 + k = i + (k + 1) by omega]

theorem calm_frames {R : Act → Prop} : ∀ (l : List Oper) (i : Nat) (a : Act), calm P ops S nw R i l a →
    ∃ vs : List Value, vs.length = l.length ∧ R (frames ((dets nw i l).zip vs) a) ∧
      ∀ k o, l[k]? = some o → ∃ v, vs[k]? = some v ∧
        ((i + k ∈ nw ∧ New1 P S (i + k) o (frames (((dets nw i l).zip vs).take k) a)) ∨
         (i + k ∉ nw ∧ Region.wanted o (yielded ops (frames (((dets nw i l).zip vs).take k) a).tmps) = true ∧ Calm1 P S o (frames (((dets nw i l).zip vs).take k) a) v) ∨
         (i + k ∉ nw ∧ Region.wanted o (yielded ops (frames (((dets nw i l).zip vs).take k) a).tmps) = false ∧ v = undef)) := by
  intro l
  induction l with
  | nil => intro i a h; exact ⟨[], rfl, h, fun k o hk => by simp at hk⟩
  | cons o l ih =>
    intro i a h
    have step : ∀ (v : Value) (a' : Act), a' = a.put (if i ∈ nw then none else o.dst) v → calm P ops S nw R (i + 1) l a' →
        ((i ∈ nw ∧ New1 P S i o a) ∨ (i ∉ nw ∧ Region.wanted o (yielded ops a.tmps) = true ∧ Calm1 P S o a v) ∨ (i ∉ nw ∧ Region.wanted o (yielded ops a.tmps) = false ∧ v = undef)) → ∃ vs : List Value, vs.length = (o :: l).length ∧ R (frames ((dets nw i (o :: l)).zip vs) a) ∧
      ∀ k o', (o :: l)[k]? = some o' → ∃ v, vs[k]? = some v ∧
        ((i + k ∈ nw ∧ New1 P S (i + k) o' (frames (((dets nw i (o :: l)).zip vs).take k) a)) ∨
         (i + k ∉ nw ∧ Region.wanted o' (yielded ops (frames (((dets nw i (o :: l)).zip vs).take k) a).tmps) = true ∧ Calm1 P S o' (frames (((dets nw i (o :: l)).zip vs).take k) a) v) ∨
         (i + k ∉ nw ∧ Region.wanted o' (yielded ops (frames (((dets nw i (o :: l)).zip vs).take k) a).tmps) = false ∧ v = undef)) := by
      intro v a' ha hc h0
      obtain ⟨vs, hl, hR, hk⟩ := ih _ _ hc
      refine ⟨v :: vs, by simp [hl], by rw [ha] at hR; exact hR, fun k o' hk' => ?_⟩
      cases k with
      | zero => simp at hk'; subst hk'; exact ⟨v, rfl, h0⟩
      | succ k =>
        have := hk k o' (by simpa using hk')
        rw [ha, show i + 1 + k = i + (k + 1) by omega] at this
        exact this
    rcases h with ⟨hi, h1, h2⟩ | ⟨hi, hw, v, h1, h2⟩ | ⟨hi, hw, h2⟩
    · exact step undef a (by rw [if_pos hi]; rfl) h2 (.inl ⟨hi, h1⟩)
    · exact step v _ (by rw [if_neg hi]) h2 (.inr (.inl ⟨hi, hw, h1⟩))
    · exact step undef _ (by rw [if_neg hi]) h2 (.inr (.inr ⟨hi, hw, rfl⟩))

/-- The frame a' is a, but that what the k-th writes, for each k of E, stands there. -/
structure Agree (D : Nat → Option (Option Tmp × Value)) (E : Nat → Prop) (a a' : Act) : Prop where
  defers : a'.defers = a.defers
  size : a'.tmps.size = a.tmps.size
  wrote : ∀ k t v, E k → D k = some (some t, v) → t < a.tmps.size → a'.tmps[t]? = some v
  kept : ∀ t, (∀ k v, E k → D k ≠ some (some t, v)) → a'.tmps[t]? = a.tmps[t]?

theorem Agree.put {D : Nat → Option (Option Tmp × Value)} {E : Nat → Prop} {a a' : Act} (h : Agree D E a a') {j : Nat} {d : Option Tmp} {v : Value} (hj : D j = some (d, v))
    (hne : ∀ k t u, k ≠ j → D k = some (some t, u) → d ≠ some t) : Agree D (fun k => E k ∨ k = j) a (a'.put d v) := by
  cases d with
  | none =>
    refine ⟨h.defers, h.size, fun k t u hk hD ht => ?_, fun t ht => h.kept t fun k u hk => ht k u (.inl hk)⟩
    rcases hk with hk | rfl
    · exact h.wrote k t u hk hD ht
    · rw [hj] at hD; cases hD
  | some d =>
    refine ⟨h.defers, by simp [Act.put, h.size], fun k t u hk hD ht => ?_, fun t ht => ?_⟩
    · by_cases hkj : k = j
      · subst hkj
        rw [hj] at hD
        cases hD
        simp [Act.put, h.size, ht]
      · have hdt : d ≠ t := fun e => hne k t u hkj hD (by rw [e])
        have := h.wrote k t u (hk.resolve_right hkj) hD ht
        simpa [Act.put, Array.getElem?_setIfInBounds_ne hdt] using this
    · have hdt : d ≠ t := fun e => ht j v (.inr rfl) (by rw [hj, e])
      simpa [Act.put, Array.getElem?_setIfInBounds_ne hdt] using h.kept t fun k u hk => ht k u (.inl hk)

theorem agree_frames (D : List (Option Tmp × Value)) (hne : ∀ (j k : Nat) (t : Tmp) (u v : Value), k ≠ j → D[k]? = some (some t, u) → D[j]? ≠ some (some t, v)) (a : Act) :
    ∀ n, n ≤ D.length → Agree (fun k => D[k]?) (fun k => k < n) a (frames (D.take n) a) := by
  intro n
  induction n with
  | zero => intro _; exact ⟨rfl, rfl, fun k t v hk => by omega, fun t _ => rfl⟩
  | succ n ih =>
    intro hn
    have hlt : n < D.length := by omega
    obtain ⟨d, v, hDn⟩ : ∃ d v, D[n]? = some (d, v) := ⟨_, _, List.getElem?_eq_getElem hlt⟩
    have e : D.take (n + 1) = D.take n ++ [(d, v)] := by rw [List.take_add_one, hDn]; rfl
    rw [e, frames_snoc]
    have := (ih (by omega)).put (j := n) hDn (fun k t u hk hDk e => by subst e; exact hne n k t u v hk hDk hDn)
    refine ⟨this.defers, this.size, fun k t u hk => this.wrote k t u (by omega), fun t ht => this.kept t fun k u hk => ht k u (by omega)⟩

/-- The new ones' values in their places. -/
def putNew (l : List Oper) (nw : List Nat) (σ : Sig) (a : Act) : Act := nw.foldl (fun a k => a.put ((l[k]?).bind (·.dst)) ((σ k).getD undef)) a
theorem putNew_keeps (l : List Oper) (σ : Sig) : ∀ (nw : List Nat) (a : Act), (putNew l nw σ a).defers = a.defers ∧ (putNew l nw σ a).tmps.size = a.tmps.size := by
  intro nw
  induction nw with
  | nil => exact fun a => ⟨rfl, rfl⟩
  | cons k nw ih =>
    intro a
    have := ih (a.put ((l[k]?).bind (·.dst)) ((σ k).getD undef))
    have h2 : (a.put ((l[k]?).bind (·.dst)) ((σ k).getD undef)).defers = a.defers ∧ (a.put ((l[k]?).bind (·.dst)) ((σ k).getD undef)).tmps.size = a.tmps.size := by
      cases (l[k]?).bind (·.dst) <;> simp [Act.put]
    exact ⟨this.1.trans h2.1, this.2.trans h2.2⟩
theorem putNew_old (l : List Oper) (σ : Sig) (t : Tmp) : ∀ (nw : List Nat) (a : Act), (∀ k ∈ nw, (l[k]?).bind (·.dst) ≠ some t) → (putNew l nw σ a).tmps[t]? = a.tmps[t]? := by
  intro nw
  induction nw with
  | nil => exact fun a _ => rfl
  | cons k nw ih =>
    intro a h
    have h1 := ih (a.put ((l[k]?).bind (·.dst)) ((σ k).getD undef)) fun j hj => h j (by simp [hj])
    have h2 := h k (by simp)
    refine h1.trans ?_
    cases hd : (l[k]?).bind (·.dst) with
    | none => simp [Act.put]
    | some d =>
      have : d ≠ t := fun e => h2 (by rw [hd, e])
      simp [Act.put, Array.getElem?_setIfInBounds_ne this]
theorem putNew_new (l : List Oper) (σ : Sig) (t : Tmp) (k : Nat) : ∀ (nw : List Nat) (a : Act), k ∈ nw → (l[k]?).bind (·.dst) = some t → (∀ j ∈ nw, (l[j]?).bind (·.dst) = some t → j = k) → t < a.tmps.size →
    (putNew l nw σ a).tmps[t]? = some ((σ k).getD undef) := by
  intro nw
  induction nw with
  | nil => exact fun a h => by simp at h
  | cons j nw ih =>
    intro a hk hd hu ht
    have hsz : (a.put ((l[j]?).bind (·.dst)) ((σ j).getD undef)).tmps.size = a.tmps.size := by cases (l[j]?).bind (·.dst) <;> simp [Act.put]
    by_cases hkn : k ∈ nw
    · exact ih (a.put ((l[j]?).bind (·.dst)) ((σ j).getD undef)) hkn hd (fun i hi => hu i (by simp [hi])) (by rw [hsz]; exact ht)
    · have hkj : k = j := by simpa [hkn] using hk
      subst hkj
      have h1 := putNew_old l σ t nw (a.put ((l[k]?).bind (·.dst)) ((σ k).getD undef)) fun i hi he => hkn (hu i (by simp [hi]) he ▸ hi)
      refine h1.trans ?_
      rw [hd]
      simp [Act.put, ht]

theorem same_op {o : Oper} {a a' : Act} (hs : ∀ cs b, o.op ≠ .select cs b) (h : ∀ t ∈ o.looksAt ops, a'.tmps[t]? = a.tmps[t]?) :
    execOp a'.eval o = execOp a.eval o ∧ Region.wanted o (yielded ops a'.tmps) = Region.wanted o (yielded ops a.tmps) := by
  refine ⟨execOp_congr o hs fun x hx => ?_, ?_⟩
  · cases x with
    | tmp t =>
      have := h t (List.mem_append_left _ (List.mem_filterMap.2 ⟨.tmp t, by simpa using hx, rfl⟩))
      simp [Act.eval, this]
    | _ => rfl
  · unfold Region.wanted
    cases hg : o.guard with
    | none => rfl
    | some gw =>
      obtain ⟨g, want⟩ := gw
      have hy : yielded ops a'.tmps g = yielded ops a.tmps g := by
        unfold yielded
        cases ht : (ops[g]?).bind (·.dst) with
        | none => rfl
        | some t =>
          have := h t (by simp [Oper.looksAt, hg, ht])
          simp [this]
      simp only [hy]

theorem waits_spec {o : Oper} {k : Nat} (h : waits o k = true) : ∃ e ∈ o.after, Region.binds .any e = true ∧ e.on = k := by
  unfold waits at h
  obtain ⟨e, he, hb⟩ := Array.any_eq_true'.1 h
  simp only [Bool.and_eq_true, beq_iff_eq] at hb
  exact ⟨e, he, hb.1, hb.2⟩

theorem mem_ready {md : Region.Mode} {listed : Array Bool} {i : Nat} : i ∈ Region.ready md ops listed ↔
    i < ops.size ∧ listed.getD i true = false ∧ ∃ o, ops[i]? = some o ∧ ∀ e ∈ o.after, Region.binds md e = true → listed.getD e.on false = true := by
  unfold Region.ready
  simp only [List.mem_filter, List.mem_range, Bool.and_eq_true, Bool.not_eq_true']
  constructor
  · rintro ⟨h1, h2, h3⟩
    refine ⟨h1, h2, ?_⟩
    cases ho : ops[i]? with
    | none => simp [ho] at h3
    | some o =>
      simp only [ho, Option.map_some, Option.getD_some] at h3
      refine ⟨o, rfl, fun e he hb => ?_⟩
      have := Array.all_eq_true'.1 h3 e he
      simpa [hb] using this
  · rintro ⟨h1, h2, o, ho, h3⟩
    refine ⟨h1, h2, ?_⟩
    simp only [ho, Option.map_some, Option.getD_some]
    refine Array.all_eq_true'.2 fun e he => ?_
    cases hb : Region.binds md e with
    | false => simp
    | true => simpa using h3 e he hb

/-- How many are left. -/
def left (listed : Array Bool) : Nat := ((List.range listed.size).filter fun i => !listed.getD i true).length
theorem filter_less {p p' : Nat → Bool} {j : Nat} : ∀ (l : List Nat), l.Nodup → j ∈ l → p j = true → (∀ x, p' x = (p x && x != j)) → (l.filter p).length = (l.filter p').length + 1 := by
  intro l
  induction l with
  | nil => intro _ h; simp at h
  | cons x l ih =>
    intro hn hj hp hp'
    rw [List.nodup_cons] at hn
    by_cases hx : x = j
    · subst hx
      have e : l.filter p = l.filter p' := List.filter_congr fun y hy => by
        rw [hp' y]
        have : y ≠ x := fun e => hn.1 (e ▸ hy)
        simp [this]
      simp [hp, hp' x, e]
    · have := ih hn.2 (by simpa [Ne.symm hx] using hj) hp hp'
      simp only [List.filter_cons, hp' x]
      by_cases hpx : p x = true
      · simp [hpx, hx, this]
      · simp [hpx, this]
theorem left_set {listed : Array Bool} {j : Nat} (hj : j < listed.size) (hl : listed.getD j true = false) : left listed = left (listed.setIfInBounds j true) + 1 := by
  unfold left
  simp only [Array.size_setIfInBounds]
  refine filter_less (j := j) _ List.nodup_range (by simpa using hj) (by simp [hl]) fun x => ?_
  by_cases hx : x = j
  · subst hx; simp [hj]
  · have : j ≠ x := Ne.symm hx
    simp [Array.getElem?_setIfInBounds_ne this, hx]
theorem left_pos {listed : Array Bool} {j : Nat} (hj : j < listed.size) (hl : listed.getD j true = false) : 0 < left listed := by
  rw [left_set hj hl]; omega

structure Good (ops : Array Oper) (n : Nat) (nw : List Nat) (pre : List Nat) : Prop where
  preOrd : preOk ops n nw [] pre = true
  preAny : ∀ p ∈ pre, p < n ∧ p ∉ nw ∧ ∃ o, ops[p]? = some o ∧ o.guard = none ∧ ∀ e ∈ o.after, Region.binds .any e = true → e.on ∈ pre
  newLt : ∀ k ∈ nw, k < n
  newPlain : ∀ k ∈ nw, ∀ o, ops[k]? = some o → o.guard = none
  newApart : ∀ k ∈ nw, ∀ (ok : Oper) (d : Tmp), ops[k]? = some ok → ok.dst = some d → ∀ (j : Nat) (oj : Oper), j < n → ops[j]? = some oj → d ∉ oj.looksAt ops
  le : n ≤ ops.size
  noSel : ∀ (j : Nat) (o : Oper), ops[j]? = some o → ∀ cs b, o.op ≠ .select cs b
  low : ∀ (j : Nat) (o : Oper), ops[j]? = some o → ∀ e ∈ o.after, Region.binds .any e = true → e.on < j
  own : ∀ (k : Nat) (o : Oper) (d : Tmp), k < n → ops[k]? = some o → o.dst = some d → d ∉ o.looksAt ops
  pair : ∀ (k j : Nat) (ok oj : Oper) (d : Tmp), k < n → j < n → k ≠ j → ops[k]? = some ok → ops[j]? = some oj → ok.dst = some d →
    oj.dst ≠ some d ∧ (d ∉ oj.looksAt ops ∨ (k < j ∧ waits oj k = true) ∨ (j < k ∧ waits ok j = true))
  sink : n < ops.size → ∀ i, i < n → i ∉ pre → ∃ k, i < k ∧ k ≤ n ∧ ∃ o, ops[k]? = some o ∧ waits o i = true
  chain : ∀ (j : Nat) (o : Oper), n < j → ops[j]? = some o → waits o (j - 1) = true

theorem preOk_cons {n p : Nat} {done r : List Nat} (h : preOk ops n nw done (p :: r) = true) :
    p < n ∧ p ∉ nw ∧ p ∉ done ∧ (∃ o, ops[p]? = some o ∧ o.guard = none ∧ ∀ e ∈ o.after, Region.binds .any e = true → e.on ∈ done) ∧ preOk ops n nw (p :: done) r = true := by
  unfold preOk at h
  simp only [Bool.and_eq_true, decide_eq_true_eq, Bool.not_eq_true'] at h
  obtain ⟨⟨⟨⟨h1, h2⟩, h3⟩, h4⟩, h5⟩ := h
  refine ⟨h1, by simpa using h2, by simpa using h3, ?_, h5⟩
  cases ho : ops[p]? with
  | none => simp [ho] at h4
  | some o =>
    simp only [ho, Bool.and_eq_true] at h4
    refine ⟨o, rfl, by simpa using h4.1, fun e he hb => ?_⟩
    have := Array.all_eq_true'.1 h4.2 e he
    simpa [hb] using this
theorem preOk_mem {n : Nat} : ∀ (r done : List Nat), preOk ops n nw done r = true → ∀ p ∈ r, p < n ∧ p ∉ nw ∧ ∃ o, ops[p]? = some o ∧ o.guard = none ∧ ∀ e ∈ o.after, Region.binds .any e = true → e.on ∈ r ∨ e.on ∈ done := by
  intro r
  induction r with
  | nil => intro _ _ p hp; cases hp
  | cons q r ih =>
    intro done h p hp
    obtain ⟨h1, h2, _, ⟨o, ho, hg, he⟩, h5⟩ := preOk_cons h
    rcases List.mem_cons.1 hp with rfl | hp
    · exact ⟨h1, h2, o, ho, hg, fun e hm hb => .inr (he e hm hb)⟩
    · obtain ⟨k1, k2, o', ho', hg', he'⟩ := ih _ h5 p hp
      refine ⟨k1, k2, o', ho', hg', fun e hm hb => ?_⟩
      rcases he' e hm hb with h | h
      · exact .inl (List.mem_cons_of_mem _ h)
      · rcases List.mem_cons.1 h with rfl | h
        · exact .inl (List.mem_cons_self ..)
        · exact .inr h
theorem good_of {n : Nat} {pre : List Nat} (h : calmOk ops n nw pre = true) : Good ops n nw pre := by
  unfold calmOk at h
  rw [Bool.and_eq_true, Bool.and_eq_true, decide_eq_true_eq, List.all_eq_true] at h
  obtain ⟨⟨hn, hnew⟩, h⟩ := h
  rw [Bool.and_eq_true] at hnew
  obtain ⟨hnew, hpre⟩ := hnew
  have hpa : ∀ p ∈ pre, p < n ∧ p ∉ nw ∧ ∃ o, ops[p]? = some o ∧ o.guard = none ∧ ∀ e ∈ o.after, Region.binds .any e = true → e.on ∈ pre := by
    intro p hp
    have := preOk_mem pre [] hpre p hp
    simpa using this
  have hnw : ∀ k ∈ nw, k < n ∧ ∀ ok, ops[k]? = some ok → ok.guard = none ∧ ∀ d, ok.dst = some d → ∀ (j : Nat) (oj : Oper), j < n → ops[j]? = some oj → d ∉ oj.looksAt ops := by
    intro k hk
    unfold newOk at hnew
    rw [List.all_eq_true] at hnew
    have hh := hnew k hk
    rw [Bool.and_eq_true, decide_eq_true_eq] at hh
    refine ⟨hh.1, fun ok hok => ?_⟩
    have h2 := hh.2
    simp only [hok, Bool.and_eq_true] at h2
    refine ⟨by simpa using h2.1, fun d hd j oj hj hoj => ?_⟩
    have h3 := h2.2
    simp only [hd, List.all_eq_true, List.mem_range] at h3
    have h4 := h3 j hj
    simp only [hoj] at h4
    simpa using h4
  have key : ∀ (j : Nat) (oj : Oper), ops[j]? = some oj → (isSelect oj.op = false ∧ (∀ e ∈ oj.after, Region.binds .any e = true → e.on < j)) ∧
      (j < n → ∀ (k : Nat) (ok : Oper) (d : Tmp), k < n → ops[k]? = some ok → ok.dst = some d →
        (k = j → d ∉ oj.looksAt ops) ∧ (k ≠ j → oj.dst ≠ some d ∧ (d ∉ oj.looksAt ops ∨ (k < j ∧ waits oj k = true) ∨ (j < k ∧ waits ok j = true)))) ∧
      (j = n → ∀ i, i < n → i ∉ pre → ∃ k, i < k ∧ k ≤ n ∧ ∃ o, ops[k]? = some o ∧ waits o i = true) ∧ (n < j → waits oj (j - 1) = true) := by
    intro j oj hj
    have hlt : j < ops.size := (Array.getElem?_eq_some_iff.1 hj).1
    have hh := h j (List.mem_range.2 hlt)
    simp only [hj, Bool.and_eq_true, Bool.or_eq_true, Bool.not_eq_true', decide_eq_true_eq, List.all_eq_true, List.any_eq_true, List.mem_range] at hh
    obtain ⟨⟨⟨⟨h1, h2⟩, h3⟩, h4⟩, h5⟩ := hh
    refine ⟨⟨h1, fun e he hb => ?_⟩, fun hjn k ok d hk hok hd => ?_, fun hjn i hi hpi => ?_, fun hnj => ?_⟩
    · have := Array.all_eq_true'.1 h2 e he
      simpa [hb] using this
    · have h6 := (h3.resolve_left (by omega)) k hk
      simp only [hok, hd] at h6
      refine ⟨fun hkj => ?_, fun hkj => ?_⟩
      · rw [if_pos hkj] at h6
        simpa using h6
      · rw [if_neg hkj] at h6
        simp only [Bool.and_eq_true, bne_iff_ne, ne_eq, Bool.or_eq_true, Bool.not_eq_true'] at h6
        refine ⟨h6.1, ?_⟩
        rcases h6.2 with h7 | h7
        · exact .inl (by simpa using h7)
        · by_cases hlt : k < j
          · rw [if_pos hlt] at h7; exact .inr (.inl ⟨hlt, h7⟩)
          · rw [if_neg hlt] at h7; exact .inr (.inr ⟨by omega, h7⟩)
    · rcases h4 with h4 | h4
      · exact absurd hjn h4
      · obtain ⟨k, hk, hik, hw⟩ := (h4 i hi).resolve_left (by simpa using hpi)
        refine ⟨k, hik, by omega, ?_⟩
        cases hok : ops[k]? with
        | none => simp [hok] at hw
        | some ok => exact ⟨ok, rfl, by simpa [hok] using hw⟩
    · rcases h5 with h5 | h5
      · omega
      · exact h5
  refine ⟨hpre, hpa, fun k hk => (hnw k hk).1, fun k hk o ho => ((hnw k hk).2 o ho).1, fun k hk ok d hok hd j oj hj hoj => ((hnw k hk).2 ok hok).2 d hd j oj hj hoj, hn, fun j o ho cs b he => ?_, fun j o ho => (key j o ho).1.2, fun k o d hk ho hd => ((key k o ho).2.1 hk k o d hk ho hd).1 rfl,
    fun k j ok oj d hk hj hkj hok hoj hd => ((key j oj hoj).2.1 hj k ok d hk hok hd).2 hkj, fun hlt i hi hpi => ?_, fun j o hj ho => (key j o ho).2.2.2 hj⟩
  · have := (key j o ho).1.1
    rw [he] at this
    cases this
  · exact (key n _ (Array.getElem?_eq_getElem hlt)).2.2.1 rfl i hi hpi

theorem getD_tf {listed : Array Bool} {k : Nat} (hk : k < listed.size) : listed.getD k true = listed.getD k false := by simp [hk]

theorem left_zero {listed : Array Bool} (h : ∀ k, k < listed.size → listed.getD k true = true) : left listed = 0 := by
  unfold left
  rw [List.length_eq_zero_iff, List.filter_eq_nil_iff]
  intro k hk
  have := h k (by simpa using hk)
  simp only [this, Bool.not_true, Bool.false_eq_true, not_false_eq_true]

theorem tail_any {l : List Oper} {n : Nat} {pre : List Nat} {Q : Exit → Act → World → Prop} (g : Good l.toArray n nw pre) : ∀ (fuel m : Nat) (listed : Array Bool) (a : Act) (w : World), listed.size = l.length → n ≤ m →
    (∀ k, k < m → k < l.length → listed.getD k true = true) → (∀ k, m ≤ k → k < l.length → listed.getD k true = false) → left listed = fuel →
    wpList P l.toArray Q (l.drop m) a w → wpAny P .any l.toArray Q fuel listed a w := by
  intro fuel
  induction fuel with
  | zero =>
    intro m listed a w hs hnm h1 h2 hl hw
    have hm : l.length ≤ m := by
      rcases Nat.lt_or_ge m l.length with h | h
      · have := left_pos (j := m) (by omega) (h2 m (Nat.le_refl _) h); omega
      · exact h
    rw [List.drop_eq_nil_of_le hm] at hw
    refine ⟨List.eq_nil_iff_forall_not_mem.2 fun i hi => ?_, hw⟩
    obtain ⟨hi1, hi2, _⟩ := mem_ready.1 hi
    have hi1 : i < l.length := by simpa using hi1
    rw [h1 i (by omega) hi1] at hi2
    cases hi2
  | succ fuel ih =>
    intro m listed a w hs hnm h1 h2 hl hw
    have hm : m < l.length := by
      rcases Nat.lt_or_ge m l.length with h | h
      · exact h
      · have := left_zero (listed := listed) (fun k hk => h1 k (by omega) (by omega)); omega
    obtain ⟨o, ho⟩ : ∃ o, l[m]? = some o := ⟨_, List.getElem?_eq_getElem hm⟩
    have hoa : l.toArray[m]? = some o := by simpa using ho
    have hready : m ∈ Region.ready .any l.toArray listed := mem_ready.2 ⟨by simpa using hm, h2 m (Nat.le_refl _) hm, o, hoa, fun e he hb => by
      have := g.low m o hoa e he hb
      rw [← getD_tf (by omega)]
      exact h1 _ this (by omega)⟩
    refine ⟨fun h => (by rw [h] at hready; cases hready), fun i hi => ?_⟩
    obtain ⟨hi1, hi2, oi, hoi, hi3⟩ := mem_ready.1 hi
    have hi1 : i < l.length := by simpa using hi1
    have him : i = m := by
      rcases Nat.lt_trichotomy i m with h | h | h
      · rw [h1 i h hi1] at hi2; cases hi2
      · exact h
      · obtain ⟨e, he, hb, heq⟩ := waits_spec (g.chain i oi (by omega) hoi)
        have := hi3 e he hb
        rw [heq, ← getD_tf (by omega), h2 (i - 1) (by omega) (by omega)] at this
        cases this
    subst him
    have hd : l.drop i = o :: l.drop (i + 1) := by
      rw [List.drop_eq_getElem_cons hm]
      congr 1
      have := List.getElem?_eq_getElem hm
      rw [ho] at this
      exact (Option.some.inj this).symm
    rw [hd] at hw
    have hop : wpOp P l.toArray Q i (wpList P l.toArray Q (l.drop (i + 1))) a w := by
      unfold wpOp
      simp only [hoa]
      exact hw
    refine wpOp_mono (fun a' w' h' => ih (i + 1) _ a' w' (by simpa using hs) (by omega) ?_ ?_ ?_ h') hop
    · intro k hk hkl
      by_cases hki : k = i
      · subst hki; simp [hs, hm]
      · have : i ≠ k := Ne.symm hki
        simpa [Array.getElem?_setIfInBounds_ne this] using h1 k (by omega) hkl
    · intro k hk hkl
      have : i ≠ k := by omega
      simpa [Array.getElem?_setIfInBounds_ne this] using h2 k (by omega) hkl
    · have := left_set (j := i) (by omega) hi2
      omega

theorem act_ext {a b : Act} (h : a.tmps = b.tmps) (h2 : a.defers = b.defers) : a = b := by cases a; cases b; simp_all
theorem put_eq {a b : Act} (h : a.tmps.size = b.tmps.size) {d : Option Tmp} {u v : Value} (e : a.put d u = a.put d v) : b.put d u = b.put d v := by
  cases d with
  | none => rfl
  | some d =>
    by_cases hd : d < a.tmps.size
    · have := congrArg (fun x => x.tmps[d]?) e
      simp only [Act.put, Array.getElem?_setIfInBounds_self, hd, if_true, Option.some.injEq] at this
      rw [this]
    · have hb : ∀ x, b.tmps.setIfInBounds d x = b.tmps := fun x => Array.setIfInBounds_eq_of_size_le (Nat.le_of_not_lt (h ▸ hd))
      simp [Act.put, hb]

theorem Calm1.at {o : Oper} {a a' : Act} {v : Value} (h : Calm1 P S o a v) (he : execOp a'.eval o = execOp a.eval o) (hs : a.tmps.size = a'.tmps.size) {σ : Sig} {w : World} (hw : S σ w)
    (K : Act → World → Prop) (Q : Exit → Act → World → Prop) (hK : ∀ w', S σ w' → K (a'.put o.dst v) w') : o.wp P a' w K Q := by
  have h1 := h σ w hw (fun a1 w1 => a1 = a.put o.dst v ∧ S σ w1) (fun _ _ _ => False) (fun w' hw' => ⟨rfl, hw'⟩)
  unfold Oper.wp at *
  rw [he]
  generalize (execOp a.eval o).run P w = r at *
  cases r with
  | ok n w' =>
    cases n <;> simp only [Oper.upon] at h1 ⊢
    case value u => rw [put_eq hs h1.1]; exact hK _ h1.2
    case skip => rw [put_eq hs h1.1]; exact hK _ h1.2
    case defer d =>
      have := congrArg (fun x => x.defers.length) h1.1
      cases hd : o.dst <;> simp [Act.put, hd] at this
    case enter f args =>
      refine Calls.mono h1 fun e w'' he => ?_
      cases e with
      | returned u =>
        show K (a'.put o.dst u) w''
        rw [put_eq hs he.1]; exact hK _ he.2
      | panicked c => exact he.elim
      | outgrown => obtain ⟨_, _, hh⟩ := he; exact hh.elim
    case row row args => exact Rows.mono h1 fun u w'' he => by rw [put_eq hs he.1]; exact hK _ he.2
  | halt x w' => cases x <;> simp only [Oper.upon] at h1 ⊢
theorem New1.at {i : Nat} {o : Oper} {a a' : Act} (h : New1 P S i o a) (he : execOp a'.eval o = execOp a.eval o) (hs : a.tmps.size = a'.tmps.size) {σ : Sig} {w : World} (hw : S σ w)
    (K : Act → World → Prop) (Q : Exit → Act → World → Prop) (hK : ∀ v w', S (σ.upd i v) w' → K (a'.put o.dst v) w') : o.wp P a' w K Q := by
  have h1 := h σ w hw (fun a1 w1 => ∃ v, a1 = a.put o.dst v ∧ S (σ.upd i v) w1) (fun _ _ _ => False) (fun v w' hw' => ⟨v, rfl, hw'⟩)
  unfold Oper.wp at *
  rw [he]
  generalize (execOp a.eval o).run P w = r at *
  cases r with
  | ok n w' =>
    cases n <;> simp only [Oper.upon] at h1 ⊢
    case value u => obtain ⟨v, e1, e2⟩ := h1; rw [put_eq hs e1]; exact hK _ _ e2
    case skip => obtain ⟨v, e1, e2⟩ := h1; rw [put_eq hs e1]; exact hK _ _ e2
    case defer d =>
      obtain ⟨v, e1, e2⟩ := h1
      have := congrArg (fun x => x.defers.length) e1
      cases hd : o.dst <;> simp [Act.put, hd] at this
    case enter f args =>
      refine Calls.mono h1 fun e w'' he => ?_
      cases e with
      | returned u =>
        show K (a'.put o.dst u) w''
        obtain ⟨v, e1, e2⟩ := he
        rw [put_eq hs e1]; exact hK _ _ e2
      | panicked c => exact he.elim
      | outgrown => obtain ⟨_, _, hh⟩ := he; exact hh.elim
    case row row args => exact Rows.mono h1 fun u w'' he => by obtain ⟨v, e1, e2⟩ := he; rw [put_eq hs e1]; exact hK _ _ e2
  | halt x w' => cases x <;> simp only [Oper.upon] at h1 ⊢

/-- The ones that are taken ahead, in their order, each yielding its value in whatever world. -/
def PreRun (P : Program) (l : List Oper) : List Nat → Act → Act → Prop
  | [], a, a0 => a0 = a
  | p :: r, a, a0 => ∃ o v, l[p]? = some o ∧ (∀ w, (execOp a.eval o).run P w = .ok (.value v) w) ∧ PreRun P l r (a.put o.dst v) a0

theorem wpAny_new {Q : Exit → Act → World → Prop} {a a0 : Act} {w : World} {l : List Oper} (S : Sig → World → Prop) (n : Nat) (nw : List Nat) (pre : List Nat) (hok : calmOk l.toArray n nw pre = true) (hS : S Sig.no w)
    (h : calm P l.toArray S nw (fun a' => ∀ σ w', (∀ k ∈ nw, (σ k).isSome = true) → S σ w' → wpList P l.toArray Q (l.drop n) (putNew l nw σ a') w') 0 (l.take n) a)
    (listed0 : Array Bool) (hs0 : listed0.size = l.length) (hl0 : ∀ k, k < l.length → listed0.getD k true = true → k ∈ pre) (hp0 : ∀ p ∈ pre, listed0.getD p true = true)
    (ha0 : PreRun P l pre a a0) :
    wpAny P .any l.toArray Q (left listed0) listed0 a0 w := by
  have g := good_of hok
  have hnl : n ≤ l.length := by simpa using g.le
  obtain ⟨vs, hvl, hR, hk⟩ := calm_frames _ _ _ h
  have hvn : vs.length = n := by simp [hvl, hnl]
  obtain ⟨D, hD⟩ : ∃ D, (dets nw 0 (l.take n)).zip vs = D := ⟨_, rfl⟩
  rw [hD] at hR hk
  simp only [Nat.zero_add] at hk
  have hDl : D.length = n := by rw [← hD]; simp [dets_length, hvn, hnl]
  have hget : ∀ k, k < n → (dets nw 0 (l.take n))[k]? = (l[k]?).map fun o => if k ∈ nw then none else o.dst := by
    intro k hk
    rw [dets_get]
    simp [hk]
  -- the k-th of D
  have hDk : ∀ (k : Nat) (o : Oper) (v : Value), k < n → k ∉ nw → l[k]? = some o → vs[k]? = some v → D[k]? = some (o.dst, v) := by
    intro k o v hkn hnk ho hv
    rw [← hD, List.getElem?_zip_eq_some]
    refine ⟨?_, hv⟩
    rw [hget k hkn, ho]
    simp [hnk]
  have hDd : ∀ (k : Nat) (t : Tmp) (v : Value), D[k]? = some (some t, v) → k < n ∧ k ∉ nw ∧ ∃ o, l[k]? = some o ∧ o.dst = some t := by
    intro k t v hk
    have hkn : k < n := by rw [← hDl]; exact (List.getElem?_eq_some_iff.1 hk).1
    rw [← hD, List.getElem?_zip_eq_some] at hk
    obtain ⟨h1, _⟩ := hk
    rw [hget k hkn, Option.map_eq_some_iff] at h1
    obtain ⟨o, ho, hd⟩ := h1
    by_cases hnk : k ∈ nw
    · simp [hnk] at hd
    · rw [if_neg hnk] at hd
      exact ⟨hkn, hnk, o, ho, hd⟩
  have huniq : ∀ (j k : Nat) (t : Tmp) (u v : Value), k ≠ j → D[k]? = some (some t, u) → D[j]? ≠ some (some t, v) := by
    intro j k t u v hkj h1 h2
    obtain ⟨hkn, _, ok, hok', hdk⟩ := hDd k _ u h1
    obtain ⟨hjn, _, oj, hoj, hdj⟩ := hDd j _ v h2
    exact (g.pair k j ok oj t hkn hjn hkj (by simpa using hok') (by simpa using hoj) hdk).1 hdj
  -- .. with the new ones' values
  obtain ⟨F, hF⟩ : ∃ F : Sig → Nat → Option (Option Tmp × Value), ∀ σ k, F σ k = if k ∈ nw then (l[k]?).map fun o => (o.dst, (σ k).getD undef) else D[k]? := ⟨_, fun _ _ => rfl⟩
  have hFd : ∀ (σ : Sig) (k : Nat) (t : Tmp) (v : Value), F σ k = some (some t, v) → k < n ∧ ∃ o, l[k]? = some o ∧ o.dst = some t := by
    intro σ k t v hk
    rw [hF] at hk
    by_cases hnk : k ∈ nw
    · rw [if_pos hnk, Option.map_eq_some_iff] at hk
      obtain ⟨o, ho, hd⟩ := hk
      exact ⟨g.newLt k hnk, o, ho, by simp at hd; exact hd.1⟩
    · rw [if_neg hnk] at hk
      obtain ⟨h1, _, h3⟩ := hDd k t v hk
      exact ⟨h1, h3⟩
  have hFu : ∀ (σ : Sig) (j k : Nat) (t : Tmp) (u v : Value), k ≠ j → F σ k = some (some t, u) → F σ j ≠ some (some t, v) := by
    intro σ j k t u v hkj h1 h2
    obtain ⟨hkn, ok, hok', hdk⟩ := hFd σ k _ u h1
    obtain ⟨hjn, oj, hoj, hdj⟩ := hFd σ j _ v h2
    exact (g.pair k j ok oj t hkn hjn hkj (by simpa using hok') (by simpa using hoj) hdk).1 hdj
  have hend : ∀ (E : Nat → Prop) (a' : Act) (σ : Sig), (∀ k, k < n → E k) → Agree (F σ) E a a' → a' = putNew l nw σ (frames D a) := by
    intro E a' σ hall hA
    have hB := agree_frames D huniq a n (by omega)
    rw [List.take_of_length_le (by omega)] at hB
    obtain ⟨k1, k2⟩ := putNew_keeps l σ nw (frames D a)
    refine act_ext ?_ (hA.defers.trans (hB.defers.symm.trans k1.symm))
    apply Array.ext_getElem?
    intro t
    by_cases hts : t < a.tmps.size
    · by_cases hw : ∃ (k : Nat) (v : Value), F σ k = some (some t, v)
      · obtain ⟨k, v, hkv⟩ := hw
        obtain ⟨hkn, o, ho, hd⟩ := hFd σ k _ v hkv
        rw [hA.wrote k t v (hall k hkn) hkv hts]
        have hkv' := hkv
        rw [hF] at hkv
        by_cases hnk : k ∈ nw
        · rw [if_pos hnk, ho] at hkv
          simp at hkv
          rw [putNew_new l σ t k nw _ hnk (by simp [ho, hd]) (fun j hj hdj => ?_) (by rw [hB.size]; exact hts), hkv.2]
          by_cases hjk : j = k
          · exact hjk
          · exfalso
            cases hlj : l[j]? with
            | none => rw [hlj] at hdj; cases hdj
            | some oj =>
              rw [hlj] at hdj
              refine hFu σ j k t v ((σ j).getD undef) (Ne.symm hjk) hkv' ?_
              rw [hF, if_pos hj, hlj]
              simp at hdj
              simp [hdj]
        · rw [if_neg hnk] at hkv
          rw [putNew_old l σ t nw _ fun j hj hdj => ?_, hB.wrote k t v hkn hkv hts]
          cases hlj : l[j]? with
          | none => rw [hlj] at hdj; cases hdj
          | some oj =>
            rw [hlj] at hdj
            refine hFu σ j k t v ((σ j).getD undef) (fun e => hnk (e ▸ hj)) hkv' ?_
            rw [hF, if_pos hj, hlj]
            simp at hdj
            simp [hdj]
      · rw [hA.kept t fun k v _ hkv => hw ⟨k, v, hkv⟩, putNew_old l σ t nw _ fun j hj hdj => ?_, hB.kept t fun k v _ hkv => ?_]
        · obtain ⟨_, hnk, _⟩ := hDd k t v hkv
          exact hw ⟨k, v, by rw [hF, if_neg hnk]; exact hkv⟩
        · cases hlj : l[j]? with
          | none => rw [hlj] at hdj; cases hdj
          | some oj =>
            rw [hlj] at hdj
            refine hw ⟨j, (σ j).getD undef, ?_⟩
            rw [hF, if_pos hj, hlj]
            simp at hdj
            simp [hdj]
    · rw [Array.getElem?_eq_none (show a'.tmps.size ≤ t from by rw [hA.size]; exact Nat.le_of_not_lt hts), Array.getElem?_eq_none (show (putNew l nw σ (frames D a)).tmps.size ≤ t from by rw [k2, hB.size]; exact Nat.le_of_not_lt hts)]
  have main : ∀ (fuel : Nat) (listed : Array Bool) (a' : Act) (w' : World) (σ : Sig), listed.size = l.length → left listed = fuel → (∀ j, n ≤ j → j < l.length → listed.getD j true = false) →
      (∀ k o, k < l.length → listed.getD k true = true → l[k]? = some o → ∀ e ∈ o.after, Region.binds .any e = true → listed.getD e.on false = true) →
      (∀ k ∈ nw, listed.getD k true = true → (σ k).isSome = true) → (∀ p ∈ pre, listed.getD p true = true) →
      Agree (F σ) (fun k => k < n ∧ listed.getD k true = true) a a' → S σ w' → wpAny P .any l.toArray Q fuel listed a' w' := by
    intro fuel
    induction fuel with
    | zero =>
      intro listed a' w' σ hs hl ht hc hσ hP hA hSw
      have hall : ∀ k, k < l.length → listed.getD k true = true := fun k hk => by
        cases hkk : listed.getD k true with
        | true => rfl
        | false => have := left_pos (j := k) (by omega) hkk; omega
      have hn : n = l.length := by
        rcases Nat.lt_or_ge n l.length with h | h
        · have := hall n h; rw [ht n (Nat.le_refl _) h] at this; cases this
        · omega
      refine tail_any g 0 n listed a' w' hs (Nat.le_refl _) (fun k _ hk => hall k hk) ht hl ?_
      rw [hend _ a' σ (fun k hk => ⟨hk, hall k (by omega)⟩) hA]
      exact hR σ w' (fun k hk => hσ k hk (hall k (by have := g.newLt k hk; omega))) hSw
    | succ fuel ih =>
      intro listed a' w' σ hs hl ht hc hσ hP hA hSw
      by_cases hpre : ∀ k, k < n → listed.getD k true = true
      · refine tail_any g (fuel + 1) n listed a' w' hs (Nat.le_refl _) (fun k hk _ => hpre k hk) ht hl ?_
        rw [hend _ a' σ (fun k hk => ⟨hk, hpre k hk⟩) hA]
        exact hR σ w' (fun k hk => hσ k hk (hpre k (g.newLt k hk))) hSw
      · -- the least that is not listed is ready
        have hex : ∃ k, k < n ∧ listed.getD k true = false := by
          rcases Classical.em (∃ k, k < n ∧ listed.getD k true = false) with h | h
          · exact h
          · exact absurd (fun k hk => by
              cases hkk : listed.getD k true with
              | true => rfl
              | false => exact absurd ⟨k, hk, hkk⟩ h) hpre
        obtain ⟨m, hm, hmin⟩ : ∃ m, (m < n ∧ listed.getD m true = false) ∧ ∀ k, k < m → listed.getD k true = true := by
          obtain ⟨k, hk⟩ := hex
          induction k using Nat.strongRecOn with
          | _ k ihk =>
            rcases Classical.em (∃ j, j < k ∧ listed.getD j true = false) with ⟨j, hj, hjl⟩ | h
            · exact ihk j hj ⟨by omega, hjl⟩
            · refine ⟨k, hk, fun j hj => ?_⟩
              cases hjj : listed.getD j true with
              | true => rfl
              | false => exact absurd ⟨j, hj, hjj⟩ h
        obtain ⟨om, hom⟩ : ∃ o, l[m]? = some o := ⟨_, List.getElem?_eq_getElem (by omega)⟩
        have hready : m ∈ Region.ready .any l.toArray listed := mem_ready.2 ⟨by simp; omega, hm.2, om, by simpa using hom, fun e he hb => by
          have := g.low m om (by simpa using hom) e he hb
          rw [← getD_tf (by omega)]
          exact hmin _ this⟩
        refine ⟨fun h => (by rw [h] at hready; cases hready), fun i hi => ?_⟩
        obtain ⟨hi1, hi2, o, ho, hi3⟩ := mem_ready.1 hi
        have hi1 : i < l.length := by simpa using hi1
        have hol : l[i]? = some o := by simpa using ho
        have hin : i < n := by
          rcases Nat.lt_trichotomy i n with h | h | h
          · exact h
          · -- all that it waits for, and so all, are listed
            subst h
            have hall : ∀ d k, i - k = d → k < i → listed.getD k true = true := by
              intro d
              induction d using Nat.strongRecOn with
              | _ d ihd =>
                intro k hd hk
                by_cases hpk : k ∈ pre
                · exact hP k hpk
                obtain ⟨j, hkj, hji, oj, hoj, hwj⟩ := g.sink (by simpa using hi1) k hk hpk
                obtain ⟨e, he, hb, heq⟩ := waits_spec hwj
                rw [getD_tf (by omega), ← heq]
                rcases Nat.lt_or_ge j i with hlt | hge
                · have hjl := ihd (i - j) (by omega) j rfl hlt
                  exact hc j oj (by omega) hjl (by simpa using hoj) e he hb
                · have : j = i := by omega
                  subst this
                  rw [ho] at hoj
                  cases hoj
                  exact hi3 e he hb
            have := hall _ m rfl hm.1
            rw [hm.2] at this
            cases this
          · obtain ⟨e, he, hb, heq⟩ := waits_spec (g.chain i o h (by simpa using hol))
            have := hi3 e he hb
            rw [heq, ← getD_tf (by omega), ht (i - 1) (by omega) (by omega)] at this
            cases this
        obtain ⟨v, hv, hcase⟩ := hk i o (by simp [hin, hol])
        have hAi := agree_frames D huniq a i (by omega)
        have hsame := same_op (ops := l.toArray) (o := o) (a := frames (D.take i) a) (a' := a') (g.noSel i o ho) (by
          intro t htl
          by_cases hw : ∃ (k : Nat) (u : Value), F σ k = some (some t, u)
          · obtain ⟨k, u, hku⟩ := hw
            obtain ⟨hkn, ok, hok', hdk⟩ := hFd σ k _ u hku
            have hnk : k ∉ nw := fun hnk => g.newApart k hnk ok t (by simpa using hok') hdk i o hin ho htl
            have hDu : D[k]? = some (some t, u) := by rw [hF, if_neg hnk] at hku; exact hku
            by_cases hts : t < a.tmps.size
            · have hki : k ≠ i := fun e => by
                subst e
                rw [hol] at hok'
                cases hok'
                exact g.own k o t hkn ho hdk htl
              rcases (g.pair k i ok o t hkn hin hki (by simpa using hok') ho hdk).2 with h1 | ⟨hlt, hwt⟩ | ⟨hlt, hwt⟩
              · exact absurd htl h1
              · obtain ⟨e, he, hb, heq⟩ := waits_spec hwt
                have hkl : listed.getD k true = true := by
                  rw [getD_tf (by omega), ← heq]; exact hi3 e he hb
                rw [hA.wrote k t u ⟨hkn, hkl⟩ hku hts, hAi.wrote k t u hlt hDu hts]
              · obtain ⟨e, he, hb, heq⟩ := waits_spec hwt
                have hkl : ¬ listed.getD k true = true := fun hkl => by
                  have := hc k ok (by omega) hkl hok' e he hb
                  rw [heq, ← getD_tf (by omega), hi2] at this
                  cases this
                rw [hA.kept t fun k' u' hk' hD' => ?_, hAi.kept t fun k' u' hk' hD' => ?_]
                · by_cases hkk : k' = k
                  · subst hkk; omega
                  · exact huniq k k' t u' u hkk hD' hDu
                · by_cases hkk : k' = k
                  · subst hkk; exact hkl hk'.2
                  · exact hFu σ k k' t u' u hkk hD' hku
            · rw [Array.getElem?_eq_none (show a'.tmps.size ≤ t from by rw [hA.size]; exact Nat.le_of_not_lt hts), Array.getElem?_eq_none (show (frames (D.take i) a).tmps.size ≤ t from by rw [hAi.size]; exact Nat.le_of_not_lt hts)]
          · rw [hA.kept t fun k v _ hkv => hw ⟨k, v, hkv⟩, hAi.kept t fun k v _ hkv => ?_]
            obtain ⟨_, hnk, _⟩ := hDd k t v hkv
            exact hw ⟨k, v, by rw [hF, if_neg hnk]; exact hkv⟩)
        have hset : ∀ k b, (listed.setIfInBounds i true).getD k b = if k = i then true else listed.getD k b := by
          intro k b
          by_cases hki : k = i
          · subst hki; simp [hs, hi1]
          · have : i ≠ k := Ne.symm hki
            simp [Array.getElem?_setIfInBounds_ne this, hki]
        have next : ∀ (σ' : Sig) (u : Value) w'', F σ' i = some (o.dst, u) → Agree (F σ') (fun k => k < n ∧ listed.getD k true = true) a a' → (∀ k ∈ nw, (listed.setIfInBounds i true).getD k true = true → (σ' k).isSome = true) → S σ' w'' →
            wpAny P .any l.toArray Q fuel (listed.setIfInBounds i true) (a'.put o.dst u) w'' := by
          intro σ' u w'' hFi hA' hσ' hSw''
          refine ih _ _ w'' σ' (by simpa using hs) (by have := left_set (j := i) (by omega) hi2; omega) ?_ ?_ hσ' (fun p hp => by rw [hset]; split <;> first | rfl | exact hP p hp) ?_ hSw''
          · intro j hj hjl
            rw [hset, if_neg (by omega)]
            exact ht j hj hjl
          · intro k ok hkl hkt hok' e he hb
            rw [hset]
            split
            · rfl
            · rw [hset] at hkt
              by_cases hki : k = i
              · subst hki
                rw [hol] at hok'
                cases hok'
                exact hi3 e he hb
              · rw [if_neg hki] at hkt
                exact hc k ok hkl hkt hok' e he hb
          · have := hA'.put (j := i) hFi (fun k t u' hki hD' e => hFu σ' i k t u' u hki hD' (by rw [hFi, e]))
            refine ⟨this.defers, this.size, fun k t u hk => this.wrote k t u ?_, fun t ht => this.kept t fun k u hk => ht k u ?_⟩
            · obtain ⟨h1, h2⟩ := hk
              rw [hset] at h2
              by_cases hki : k = i
              · exact .inr hki
              · rw [if_neg hki] at h2; exact .inl ⟨h1, h2⟩
            · rw [hset]
              rcases hk with ⟨h1, h2⟩ | rfl
              · exact ⟨h1, by split <;> first | rfl | exact h2⟩
              · exact ⟨hin, by simp⟩
        have hσset : i ∉ nw → ∀ k ∈ nw, (listed.setIfInBounds i true).getD k true = true → (σ k).isSome = true := fun hni k hk hkl => by
          rw [hset, if_neg (fun (e : k = i) => hni (e ▸ hk))] at hkl
          exact hσ k hk hkl
        unfold wpOp
        simp only [ho]
        rcases hcase with ⟨hni, hn1⟩ | ⟨hni, hw1, hc1⟩ | ⟨hni, hw1, rfl⟩
        · have hg := g.newPlain i hni o ho
          rw [show Region.wanted o (yielded l.toArray a'.tmps) = true by simp [Region.wanted, hg]]
          refine .inl (hn1.at hsame.1 (by rw [hAi.size, hA.size]) hSw _ _ fun u w'' hSu => ?_)
          refine next (σ.upd i u) u w'' (by rw [hF, if_pos hni, hol]; simp [Sig.upd]) ?_ ?_ hSu
          · have hne : ∀ k, (k < n ∧ listed.getD k true = true) → F (σ.upd i u) k = F σ k := fun k hk => by
              have hki : k ≠ i := fun e => by subst e; rw [hi2] at hk; cases hk.2
              rw [hF, hF]
              simp [Sig.upd, hki]
            exact ⟨hA.defers, hA.size, fun k t u' hk hD' => hA.wrote k t u' hk (by rw [← hne k hk]; exact hD'), fun t ht => hA.kept t fun k u' hk => by rw [← hne k hk]; exact ht k u' hk⟩
          · intro k hk hkl
            by_cases hki : k = i
            · simp [Sig.upd, hki]
            · rw [hset, if_neg hki] at hkl
              simpa [Sig.upd, hki] using hσ k hk hkl
        · rw [hsame.2, hw1]
          exact .inl (hc1.at hsame.1 (by rw [hAi.size, hA.size]) hSw _ _ fun w'' hSu => next σ v w'' (by rw [hF, if_neg hni]; exact hDk i o v hin hni hol hv) hA (hσset hni) hSu)
        · rw [hsame.2, hw1]
          exact next σ undef w' (by rw [hF, if_neg hni]; exact hDk i o undef hin hni hol hv) hA (hσset hni) hSw
  refine main _ listed0 a0 w Sig.no hs0 rfl (fun j hnj hj => ?_) (fun k o hk hkt ho e he hb => ?_) (fun k hk hkt => ?_) hp0 ?_ hS
  · cases hjj : listed0.getD j true with
    | false => rfl
    | true =>
      have := (g.preAny j (hl0 j hj hjj)).1
      omega
  · obtain ⟨_, _, o', ho', _, haf⟩ := g.preAny k (hl0 k hk hkt)
    obtain rfl : o' = o := by simpa [ho] using ho'.symm
    have := g.low k o' (by simpa using ho) e he hb
    rw [← getD_tf (by omega)]
    exact hp0 _ (haf e he hb)
  · exact absurd hk (g.preAny k (hl0 k (by have := g.newLt k hk; omega) hkt)).2.1
  · have step : ∀ (r done : List Nat) (a1 : Act), preOk l.toArray n nw done r = true → PreRun P l r a1 a0 → Agree (F Sig.no) (fun k => k ∈ done) a a1 →
        (∀ k ∈ done, ∀ o, l[k]? = some o → ∀ e ∈ o.after, Region.binds .any e = true → e.on ∈ done) → Agree (F Sig.no) (fun k => k ∈ r ∨ k ∈ done) a a0 := by
      intro r
      induction r with
      | nil =>
        intro done a1 _ hr hA _
        obtain rfl : a0 = a1 := hr
        simpa using hA
      | cons p r ih =>
        intro done a1 hpo hr hA hcl
        obtain ⟨hpn, hpw, hpd, ⟨o, hop, hgd, haf⟩, hpo'⟩ := preOk_cons hpo
        have hop : l[p]? = some o := by simpa using hop
        obtain ⟨o', v, ho', hrun, hr'⟩ := hr
        obtain rfl : o' = o := by simpa [hop] using ho'.symm
        obtain ⟨u, hu, hcase⟩ := hk p o' (by simp [hpn, hop])
        have hAi := agree_frames D huniq a p (by omega)
        have hsame := same_op (ops := l.toArray) (o := o') (a := a1) (a' := frames (D.take p) a) (g.noSel p o' (by simpa using hop)) (by
          intro t htl
          by_cases hts : t < a.tmps.size
          · by_cases hw : ∃ (k : Nat) (u : Value), F Sig.no k = some (some t, u)
            · obtain ⟨k, x, hkx⟩ := hw
              obtain ⟨hkn, ok, hok', hdk⟩ := hFd Sig.no k _ x hkx
              have hnk : k ∉ nw := fun hnk => g.newApart k hnk ok t (by simpa using hok') hdk p o' hpn (by simpa using hop) htl
              have hDu : D[k]? = some (some t, x) := by rw [hF, if_neg hnk] at hkx; exact hkx
              have hkp : k ≠ p := fun e => by
                subst e
                rw [hop] at hok'
                cases hok'
                exact g.own k o' t hkn (by simpa using hop) hdk htl
              rcases (g.pair k p ok o' t hkn hpn hkp (by simpa using hok') (by simpa using hop) hdk).2 with h1 | ⟨hlt, hwt⟩ | ⟨hlt, hwt⟩
              · exact absurd htl h1
              · obtain ⟨e, he, hb, heq⟩ := waits_spec hwt
                have hkd : k ∈ done := heq ▸ haf e he hb
                rw [hA.wrote k t x hkd hkx hts, hAi.wrote k t x hlt hDu hts]
              · obtain ⟨e, he, hb, heq⟩ := waits_spec hwt
                have hkd : k ∉ done := fun hkd => hpd (heq ▸ hcl k hkd ok hok' e he hb)
                rw [hA.kept t fun k' u' hk' hD' => ?_, hAi.kept t fun k' u' hk' hD' => ?_]
                · by_cases hkk : k' = k
                  · subst hkk; omega
                  · exact huniq k k' t u' x hkk hD' hDu
                · by_cases hkk : k' = k
                  · subst hkk; exact hkd hk'
                  · exact hFu Sig.no k k' t u' x hkk hD' hkx
            · rw [hA.kept t fun k v _ hkv => hw ⟨k, v, hkv⟩, hAi.kept t fun k v _ hkv => ?_]
              obtain ⟨_, hnk, _⟩ := hDd k t v hkv
              exact hw ⟨k, v, by rw [hF, if_neg hnk]; exact hkv⟩
          · rw [Array.getElem?_eq_none (show (frames (D.take p) a).tmps.size ≤ t from by rw [hAi.size]; exact Nat.le_of_not_lt hts), Array.getElem?_eq_none (show a1.tmps.size ≤ t from by rw [hA.size]; exact Nat.le_of_not_lt hts)])
        have hput : a1.put o'.dst v = a1.put o'.dst u := by
          rcases hcase with ⟨hni, _⟩ | ⟨_, _, hc1⟩ | ⟨_, hw1, _⟩
          · exact absurd hni hpw
          · have h1 := hc1.at (a' := a1) hsame.1.symm (by rw [hAi.size, hA.size]) hS (fun a2 _ => a2 = a1.put o'.dst u) (fun _ _ _ => False) (fun _ _ => rfl)
            unfold Oper.wp at h1
            rw [hrun w] at h1
            simpa only [Oper.upon] using h1
          · exfalso
            simp [Region.wanted, hgd] at hw1
        rw [hput] at hr'
        have hFp : F Sig.no p = some (o'.dst, u) := by rw [hF, if_neg hpw]; exact hDk p o' u hpn hpw hop hu
        have hA' := hA.put (j := p) hFp (fun k t u' hki hD' e => hFu Sig.no p k t u' u hki hD' (by rw [hFp, e]))
        have hA2 : Agree (F Sig.no) (fun k => k ∈ p :: done) a (a1.put o'.dst u) :=
          ⟨hA'.defers, hA'.size, fun k t x hk => hA'.wrote k t x (by
            rcases List.mem_cons.1 hk with h | h
            · exact .inr h
            · exact .inl h), fun t ht => hA'.kept t fun k x hk => ht k x (by
            rcases hk with h | h
            · exact List.mem_cons_of_mem _ h
            · exact h ▸ List.mem_cons_self ..)⟩
        have := ih (p :: done) _ hpo' hr' hA2 (fun k hk o ho e he hb => by
          rcases List.mem_cons.1 hk with rfl | hk
          · rw [hop] at ho
            cases ho
            exact List.mem_cons_of_mem _ (haf e he hb)
          · exact List.mem_cons_of_mem _ (hcl k hk o ho e he hb))
        refine ⟨this.defers, this.size, fun k t x hk => this.wrote k t x ?_, fun t ht => this.kept t fun k x hk => ht k x ?_⟩
        · rcases hk with hk | hk
          · rcases List.mem_cons.1 hk with rfl | hk
            · exact .inr (List.mem_cons_self ..)
            · exact .inl hk
          · exact .inr (List.mem_cons_of_mem _ hk)
        · rcases hk with hk | hk
          · exact .inl (List.mem_cons_of_mem _ hk)
          · rcases List.mem_cons.1 hk with rfl | hk
            · exact .inl (List.mem_cons_self ..)
            · exact .inr hk
    have h0 : Agree (F Sig.no) (fun k => k ∈ ([] : List Nat)) a a := ⟨rfl, rfl, fun k t v hk _ _ => (by cases hk), fun t _ => rfl⟩
    have := step pre [] a g.preOrd ha0 h0 (fun k hk => by cases hk)
    refine ⟨this.defers, this.size, fun k t x hk => this.wrote k t x (.inl (hl0 k (by omega) hk.2)), fun t ht => this.kept t fun k x hk => ht k x ?_⟩
    rcases hk with hk | hk
    · exact ⟨(g.preAny k hk).1, hp0 k hk⟩
    · cases hk

theorem left_none (n : Nat) : left (Array.replicate n false) = n := by
  unfold left
  rw [List.filter_eq_self.2]
  · simp
  · intro k hk
    have hk : k < n := by simpa using hk
    simp [hk]

theorem wp_region_new {id : Nat} {Q : Exit → Act → World → Prop} {a : Act} {w : World} {l : List Oper} (S : Sig → World → Prop) (n : Nat) (nw : List Nat) (hm : P.follows .mixedOrders = true) (hok : calmOk l.toArray n nw = true) (hS : S Sig.no w.drew)
    (h : calm P l.toArray S nw (fun a' => ∀ σ w', (∀ k ∈ nw, (σ k).isSome = true) → S σ w' → wpList P l.toArray Q (l.drop n) (putNew l nw σ a') w') 0 (l.take n) a) : (Code.region id l.toArray true).wp P Q a w := by
  refine wp_region_any hm ?_
  have hl := left_none l.toArray.size
  have := wpAny_new (a0 := a) S n nw [] hok hS h (Array.replicate l.toArray.size false) (by simp) (fun k hk hkt => by simp [hk] at hkt) (fun p hp => by cases hp) rfl
  rw [hl] at this
  exact this

/-- What is listed when these were taken. -/
def listedBy (n : Nat) (ps : List Nat) : Array Bool := ps.foldl (fun l p => l.setIfInBounds p true) (Array.replicate n false)
theorem foldl_listed (ps : List Nat) : ∀ (L : Array Bool) (k : Nat) (b : Bool), k < L.size → (ps.foldl (fun l p => l.setIfInBounds p true) L).getD k b = (decide (k ∈ ps) || L.getD k b) ∧ (ps.foldl (fun l p => l.setIfInBounds p true) L).size = L.size := by
  induction ps with
  | nil => intro L k b _; simp
  | cons p ps ih =>
    intro L k b hk
    obtain ⟨h1, h2⟩ := ih (L.setIfInBounds p true) k b (by simpa using hk)
    refine ⟨?_, by simpa using h2⟩
    rw [List.foldl_cons, h1]
    by_cases hkp : k = p
    · subst hkp; simp [hk]
    · have : p ≠ k := Ne.symm hkp
      simp [Array.getElem?_setIfInBounds_ne this, hkp]
/-- That each of them is free when it is taken. -/
def freeOk (ops : Array Oper) : List Nat → List Nat → Bool
  | _, [] => true
  | done, p :: r => Region.free .any ops (listedBy ops.size done) p && freeOk ops (done ++ [p]) r

/-- Those of 'pre', which wait for nobody but one another and yield their values in whatever world, need not come ahead of the n-th. -/
theorem wp_region_pres {id : Nat} {Q : Exit → Act → World → Prop} {a a0 : Act} {w : World} {l : List Oper} (S : Sig → World → Prop) (n : Nat) (nw pre : List Nat) (hm : P.follows .mixedOrders = true) (hok : calmOk l.toArray n nw pre = true)
    (hns : Region.noSelect l.toArray = true) (hfr : freeOk l.toArray [] pre = true)
    (hQ : ∀ c a d (u : Value) w, Q (.panic c) (a.put d u) w → Q (.panic c) a w) (ha0 : PreRun P l pre a a0) (hS : S Sig.no w.drew)
    (h : calm P l.toArray S nw (fun a' => ∀ σ w', (∀ k ∈ nw, (σ k).isSome = true) → S σ w' → wpList P l.toArray Q (l.drop n) (putNew l nw σ a') w') 0 (l.take n) a) : (Code.region id l.toArray true).wp P Q a w := by
  refine wp_region_any hm ?_
  have g := good_of hok
  have hl := left_none l.toArray.size
  have hall := foldl_listed pre (Array.replicate l.toArray.size false)
  have hsz : (listedBy l.toArray.size pre).size = l.length := by
    unfold listedBy
    rcases Nat.eq_zero_or_pos l.length with h0 | h0
    · have : ∀ (ps : List Nat) (L : Array Bool), (ps.foldl (fun l p => l.setIfInBounds p true) L).size = L.size := by
        intro ps
        induction ps with
        | nil => intro L; rfl
        | cons p ps ih => intro L; rw [List.foldl_cons, ih]; simp
      rw [this]; simp
    · rw [(hall 0 true (by simpa using h0)).2]; simp
  have key := wpAny_new (a0 := a0) S n nw pre hok hS h (listedBy l.toArray.size pre) hsz
    (fun k hk hkt => by
      unfold listedBy at hkt
      rw [(hall k true (by simpa using hk)).1] at hkt
      simpa [hk] using hkt) (fun p hp => by
      have hpn := (g.preAny p hp).1
      have hle := g.le
      unfold listedBy
      rw [(hall p true (by simp only [Array.size_replicate]; omega)).1]
      simp [hp]) ha0
  have step : ∀ (r done : List Nat) (a1 : Act), preOk l.toArray n nw done.reverse r = true → freeOk l.toArray done r = true → PreRun P l r a1 a0 →
      wpAny P .any l.toArray Q (left (listedBy l.toArray.size (done ++ r))) (listedBy l.toArray.size (done ++ r)) a0 w.drew → wpAny P .any l.toArray Q (left (listedBy l.toArray.size done)) (listedBy l.toArray.size done) a1 w.drew := by
    intro r
    induction r with
    | nil =>
      intro done a1 _ _ hr hw
      obtain rfl : a0 = a1 := hr
      simpa using hw
    | cons p r ih =>
      intro done a1 hpo hfo hr hw
      obtain ⟨hpn, hpw, hpd, ⟨o, hop, hgd, haf⟩, hpo'⟩ := preOk_cons hpo
      obtain ⟨o', v, ho', hrun, hr'⟩ := hr
      obtain rfl : o' = o := by simpa [ho'] using hop
      unfold freeOk at hfo
      rw [Bool.and_eq_true] at hfo
      have hplen : p < l.toArray.size := by have := g.le; omega
      have hd := foldl_listed done (Array.replicate l.toArray.size false)
      have hdsz : (listedBy l.toArray.size done).size = l.toArray.size := by unfold listedBy; rw [(hd p true (by simpa using hplen)).2]; simp
      have hset : (listedBy l.toArray.size done).setIfInBounds p true = listedBy l.toArray.size (done ++ [p]) := by unfold listedBy; rw [List.foldl_append]; rfl
      have hpf : (listedBy l.toArray.size done).getD p true = false := by
        unfold listedBy
        rw [(hd p true (by simpa using hplen)).1]
        have hpd' : p ∉ done := by simpa using hpd
        have hpl2 : p < l.length := by simpa using hplen
        simp [hpd', hpl2]
      have hl2 := left_set (listed := listedBy l.toArray.size done) (j := p) (by omega) hpf
      have hnext := ih (done ++ [p]) _ (by simpa using hpo') hfo.2 hr' (by simpa using hw)
      rw [hset] at hl2
      rw [← hset] at hnext
      have hready : (Region.ready .any l.toArray (listedBy l.toArray.size done)).contains p = true := by
        simp only [List.contains_iff_mem]
        refine mem_ready.2 ⟨by omega, hpf, o', hop, fun e he hb => ?_⟩
        have hon := haf e he hb
        have hlow := g.low p o' hop e he hb
        unfold listedBy
        rw [(hd e.on false (by simp only [Array.size_replicate]; omega)).1]
        simp only [List.mem_reverse] at hon
        simp [hon]
      have hfin := wpAny_take (v := v) (md := .any) hop hns hfo.1 hready (fun c a w h => hQ c _ _ _ w h) (.inl ⟨by simp [Region.wanted, hgd], hrun⟩) hnext
      rw [hl2, ← hset]
      exact hfin
  have := step pre [] a (by simpa using g.preOrd) hfr ha0 (by simpa using key)
  have e0 : listedBy l.toArray.size [] = Array.replicate l.toArray.size false := rfl
  rw [e0, hl] at this
  exact this

/-- Without new ones. -/
theorem wp_region_calm {id : Nat} {Q : Exit → Act → World → Prop} {a : Act} {w : World} {l : List Oper} (S : World → Prop) (n : Nat) (hm : P.follows .mixedOrders = true) (hok : calmOk l.toArray n [] = true) (hS : S w.drew)
    (h : calm P l.toArray (fun _ => S) [] (fun a' => ∀ w', S w' → wpList P l.toArray Q (l.drop n) a' w') 0 (l.take n) a) : (Code.region id l.toArray true).wp P Q a w := by
  refine wp_region_new (fun _ => S) n [] hm hok hS ?_
  have mono : ∀ (R R' : Act → Prop), (∀ a, R a → R' a) → ∀ (m : List Oper) (i : Nat) (a : Act), calm P l.toArray (fun _ => S) [] R i m a → calm P l.toArray (fun _ => S) [] R' i m a := by
    intro R R' hRR m
    induction m with
    | nil => exact fun i a h => hRR a h
    | cons o m ih =>
      intro i a h
      rcases h with ⟨h1, h2, h3⟩ | ⟨h1, h2, v, h3, h4⟩ | ⟨h1, h2, h3⟩
      · exact .inl ⟨h1, h2, ih _ _ h3⟩
      · exact .inr (.inl ⟨h1, h2, v, h3, ih _ _ h4⟩)
      · exact .inr (.inr ⟨h1, h2, ih _ _ h3⟩)
  exact mono _ _ (fun a h _ w' _ hw => h w' hw) _ _ _ h
end
end Go.Proofs.Ytljejkdkjnbmhaa
/- Calm regions over what a call owns: loads, calls, allocs. No program in sight. -/
namespace Go.Proofs.Ytljejkdkjnbmhaa
open Go.RowKit

section
variable {P : Program} {ops : Array Oper} {S : Sig → World → Prop} {nw : List Nat} {R : Act → Prop} {a : Act} {o : Oper} {rest : List Oper} {i : Nat}
theorem calm_value {v : Value} (hi : i ∉ nw) (hw : Region.wanted o (yielded ops a.tmps) = true) (h1 : ∀ σ w, S σ w → (execOp a.eval o).run P w = .ok (.value v) w) (h : calm P ops S nw R (i + 1) rest (a.put o.dst v)) : calm P ops S nw R i (o :: rest) a :=
  calm_step v hi hw (fun σ w hS K Q hK => by unfold Oper.wp; rw [h1 σ w hS]; exact hK w hS) h
theorem calm_call {v : Value} {f : FuncId} {args : Array Value} (hi : i ∉ nw) (hw : Region.wanted o (yielded ops a.tmps) = true) (hr : ∀ w, (execOp a.eval o).run P w = .ok (.enter f args) w)
    (hc : ∀ σ w, S σ w → Calls P f args w fun e w' => e = .returned v ∧ S σ w') (h : calm P ops S nw R (i + 1) rest (a.put o.dst v)) : calm P ops S nw R i (o :: rest) a :=
  calm_step v hi hw (fun σ w hS K Q hK => by
    unfold Oper.wp
    rw [hr w]
    refine (hc σ w hS).mono ?_
    rintro e w' ⟨rfl, hS'⟩
    exact hK w' hS') h
end

/-- What a new variable is. -/
def newP (o : Obj) : Option Value → List Piece
  | none => []
  | some v => [fun h => ∃ g, v = .pointer (some ⟨g, 0, none⟩) ∧ h = [(g, o)]]

theorem Own.skip {w0 w : World} {qs ps : List Piece} (h : Own w0 w (qs ++ ps)) : Own w0 w ps := by
  induction qs with
  | nil => exact h
  | cons q qs ih => exact ih h.drop
section
variable {P : Program} {ops : Array Oper} {nw : List Nat} {R : Act → Prop} {a : Act} {o : Oper} {rest : List Oper} {i : Nat} {w0 : World} {ps : List Piece}
/-- What a new row is. -/
def newR (o : Obj) (n : Nat) : Option Value → List Piece
  | none => []
  | some v => [fun h => ∃ g, v = .slice (some ⟨g, 0, none⟩) n n ∧ h = [(g, o)]]
theorem Own.newr {w0 w : World} {o : Obj} {n : Nat} {v : Value} {ps : List Piece} (h : Own w0 w (newR o n (some v) ++ ps)) : ∃ g, v = .slice (some ⟨g, 0, none⟩) n n ∧ Own w0 w (blk g o :: ps) := by
  obtain ⟨hb, x, ⟨g, hv, hx⟩, r⟩ := h
  exact ⟨g, hv, hb, x, hx, r⟩
theorem calm_row {obj : Obj} {n : Nat} (hi : i ∈ nw) (hr : ∀ w, (execOp a.eval o).run P w = .ok (.value (.slice (some ⟨w.heap.size, 0, none⟩) n n)) (w.alloc obj))
    (h : calm P ops (fun σ w => Own w0 w (newR obj n (σ i) ++ ps)) nw R (i + 1) rest a) : calm P ops (fun σ w => Own w0 w (newR obj n (σ i) ++ ps)) nw R i (o :: rest) a :=
  calm_new hi (fun σ w hS K Q hK => by
    unfold Oper.wp
    rw [hr w]
    refine hK _ _ ?_
    have hs : (σ.upd i (.slice (some ⟨w.heap.size, 0, none⟩) n n)) i = some (.slice (some ⟨w.heap.size, 0, none⟩) n n) := by simp [Sig.upd]
    show Own w0 _ (newR obj n ((σ.upd i _) i) ++ ps)
    rw [hs]
    exact (hS.skip.alloc obj).imp fun x hx => ⟨_, rfl, hx⟩) h
end
end Go.Proofs.Ytljejkdkjnbmhaa
/- The stable sort of slices of coins: the walks of swapRange, rotate. (Written by tools/srt.py.) -/
namespace Go.Proofs.Ytljejkdkjnbmhaa
open Go.RowKit

/-- A coin: its weight; whether it is a pair. -/
structure Coin where
  w : Int
  pair : Bool
deriving DecidableEq, Inhabited
def ce (x : Coin) : List Value := [.int .i64 x.w, .bool x.pair]
def cval (x : Coin) : Value := .agg #[.int .i64 x.w, .bool x.pair]
namespace SC
theorem e_length (x : Coin) : (ce x).length = 2 := rfl
theorem e_one (x : Coin) : ∀ u ∈ ce x, u.oneCell' = true := by intro u hu; simp [ce] at hu; rcases hu with rfl | rfl <;> rfl
/-- A slice of them. -/
abbrev Sl (v : Value) (l : List Coin) : Piece := slc 124 2 v l.length (rows ce l)
theorem el {w : World} {b c i n : Nat} {l : List Coin} {x : Coin} (h : Rd w 2 (.slice (some ⟨b, 0, none⟩) n c) n (rows ce l)) (hx : l[i]? = some x) :
    w.cell? ⟨b, i * 2, none⟩ = some (.int .i64 x.w) ∧ w.cell? ⟨b, i * 2 + 1, none⟩ = some (.bool x.pair) := by
  have h0 := h.cell ((rows_get ce e_length hx 0 (by omega)).trans rfl)
  have h1 := h.cell ((rows_get ce e_length hx 1 (by omega)).trans rfl)
  rw [Nat.zero_add] at h0 h1
  exact ⟨h0, h1⟩
theorem set_rows {l : List Coin} {i : Nat} (hi : i < l.length) (y : Coin) : (rows ce l).take (i * 2) ++ ce y ++ (rows ce l).drop (i * 2 + 2) = rows ce (l.set i y) := (rows_set ce e_length hi y).symm
theorem set_swap {α : Type} (u v w : List α) (x y : α) {i j : Nat} (hi : i = u.length) (hj : j = u.length + 1 + v.length) :
    ((u ++ x :: (v ++ y :: w)).set i y).set j x = u ++ y :: (v ++ x :: w) := by
  subst hi hj
  rw [List.set_append_right _ _ (Nat.le_refl _), Nat.sub_self, List.set_cons_zero, List.set_append_right _ _ (by omega), show u.length + 1 + v.length - u.length = v.length + 1 by omega, List.set_cons_succ, List.set_append_right _ _ (Nat.le_refl _), Nat.sub_self, List.set_cons_zero]
theorem get_mid {α : Type} (u w : List α) (x : α) {i : Nat} (hi : i = u.length) : (u ++ x :: w)[i]? = some x := by
  subst hi
  rw [List.getElem?_append_right (Nat.le_refl _), Nat.sub_self]; rfl

section
variable {w0 w : World} {ps : List Piece}
set_option maxRecDepth 100000 in
set_option maxHeartbeats 3200000 in
theorem swap_any {g c N : Nat} {p x m y q : List Coin} {a b n : Nat} (cmp : Value) (ha : a = p.length) (hb : b = a + x.length + m.length) (hn : n = x.length) (hy : y.length = x.length) (hN : N = (p ++ x ++ m ++ y ++ q).length) (hNb : N ≤ 1000000)
    (H : Own w0 w (slc 124 2 (.slice (some ⟨g, 0, none⟩) N c) N (rows ce (p ++ x ++ m ++ y ++ q)) :: ps)) :
    Calls Try.prog 93 #[.slice (some ⟨g, 0, none⟩) N c, .int .i64 a, .int .i64 b, .int .i64 n, cmp] w (Ret fun _ w' => Own w0 w' (slc 124 2 (.slice (some ⟨g, 0, none⟩) N c) N (rows ce (p ++ y ++ m ++ x ++ q)) :: ps)) := by
  have hN1 : N = a + n + m.length + n + q.length := by rw [hN]; simp only [List.length_append]; omega
  have hbn : b = a + n + m.length := by omega
  have HX := Lib.hid hn
  have HY := Lib.hid hy
  have HP := Lib.hid ha
  have HB := Lib.hid hbn
  have HN1 := Lib.hid hN1
  have hab : a + n ≤ b := by omega
  have hbN : b + n ≤ N := by omega
  have hNc : N ≤ c := by obtain ⟨_, _, e, h1, _⟩ := H.rd.shape; cases e; exact h1
  have hc2 : c ≤ 9223372036854775807 := by obtain ⟨_, _, e, _, h1⟩ := H.rd.shape; cases e; exact h1
  clear ha hb hn hy hN hbn hN1
  go_enter Try.func93, Try.ntmps93
  go_wp2_with fail
  go_loopw [10] (fun s10 wx => ∃ (i : Nat) (x1 x2 y1 y2 : List Coin), i ≤ n ∧ s10 = .int .i64 i ∧ Hid (x = x1 ++ x2) ∧ Hid (y = y1 ++ y2) ∧ Hid (x1.length = i) ∧ Hid (y1.length = i) ∧ Own w0 wx (slc 124 2 (.slice (some ⟨g, 0, none⟩) N c) N (rows ce (p ++ y1 ++ x2 ++ m ++ x1 ++ y2 ++ q)) :: ps)) (fun s10 _ => n - (intOf s10).toNat)
  case atStart => exact ⟨0, [], x, [], y, by omega, rfl, Lib.hid rfl, Lib.hid rfl, Lib.hid rfl, Lib.hid rfl, by simpa using H⟩
  case round =>
    clear H
    obtain ⟨i, x1, x2, y1, y2, hi, rfl, hx, hy, hx1, hy1, H⟩ := hrel
    by_cases hlt : i < n
    · obtain ⟨u, x3, hx2⟩ : ∃ u x3, x2 = u :: x3 := by
        cases x2 with
        | nil => exfalso; have h1 := hx.out; have h2 := HX.out; have h3 := hx1.out; rw [h1] at h2; simp at h2; omega
        | cons u x3 => exact ⟨u, x3, rfl⟩
      obtain ⟨v, y3, hy2⟩ : ∃ v y3, y2 = v :: y3 := by
        cases y2 with
        | nil => exfalso; have h1 := hy.out; have h2 := HX.out; have h3 := hy1.out; have h4 := HY.out; rw [h1] at h4; simp at h4; omega
        | cons v y3 => exact ⟨v, y3, rfl⟩
      subst hx2 hy2
      have el1 : p ++ y1 ++ u :: x3 ++ m ++ x1 ++ v :: y3 ++ q = (p ++ y1) ++ u :: ((x3 ++ m ++ x1) ++ v :: (y3 ++ q)) := by simp
      rw [el1] at H
      have hia : a + i = (p ++ y1).length := by rw [List.length_append, hy1.out, HP.out]
      have hxl : x.length = i + (x3.length + 1) := by rw [hx.out, List.length_append, hx1.out]; simp
      have hib : b + i = (p ++ y1).length + 1 + (x3 ++ m ++ x1).length := by
        have h1 := HX.out
        have h2 := HB.out
        have h3 := hx1.out
        have h4 := HP.out
        have h5 := hy1.out
        simp only [List.length_append]
        omega
      have hLn : ((p ++ y1) ++ u :: ((x3 ++ m ++ x1) ++ v :: (y3 ++ q))).length = N := by
        have h1 := HX.out
        have h2 := HN1.out
        have h3 := hx1.out
        have h4 := HP.out
        have h5 := hy1.out
        have h6 := HY.out
        rw [hy.out] at h6
        simp only [List.length_append, List.length_cons] at h6 ⊢
        omega
      have hg1 : ((p ++ y1) ++ u :: ((x3 ++ m ++ x1) ++ v :: (y3 ++ q)))[a + i]? = some u := get_mid _ _ _ hia
      have hg2 : ((p ++ y1) ++ u :: ((x3 ++ m ++ x1) ++ v :: (y3 ++ q)))[b + i]? = some v := by
        have : (p ++ y1) ++ u :: ((x3 ++ m ++ x1) ++ v :: (y3 ++ q)) = ((p ++ y1) ++ u :: (x3 ++ m ++ x1)) ++ v :: (y3 ++ q) := by simp
        rw [this]
        exact get_mid _ _ _ (by rw [hib]; simp only [List.length_append, List.length_cons]; omega)
      have hsw := set_swap (p ++ y1) (x3 ++ m ++ x1) (y3 ++ q) u v hia hib
      obtain ⟨L, hL⟩ : ∃ L, Hid ((p ++ y1) ++ u :: ((x3 ++ m ++ x1) ++ v :: (y3 ++ q)) = L) := ⟨_, rfl⟩
      rw [hL.out] at H hg1 hg2 hsw hLn
      have HG1 := Lib.hid hg1
      have HG2 := Lib.hid hg2
      have HLN := Lib.hid hLn
      have e1 : (rows ce L).take ((a + i) * 2) ++ ce v ++ (rows ce L).drop ((a + i) * 2 + 2) = rows ce (L.set (a + i) v) := set_rows (by rw [hLn]; omega) v
      have e2 : (rows ce (L.set (a + i) v)).take ((b + i) * 2) ++ ce u ++ (rows ce (L.set (a + i) v)).drop ((b + i) * 2 + 2) = rows ce (p ++ (y1 ++ [v]) ++ x3 ++ m ++ (x1 ++ [u]) ++ y3 ++ q) := by
        rw [set_rows (by rw [List.length_set, hLn]; omega) u, hsw]
        simp
      have E1 := Lib.hid e1
      have E2 := Lib.hid e2
      have hX' : Hid (x = (x1 ++ [u]) ++ x3) := Lib.hid (by rw [hx.out]; simp)
      have hY' : Hid (y = (y1 ++ [v]) ++ y3) := Lib.hid (by rw [hy.out]; simp)
      have hx1' : Hid ((x1 ++ [u]).length = i + 1) := Lib.hid (by rw [List.length_append, hx1.out]; rfl)
      have hy1' : Hid ((y1 ++ [v]).length = i + 1) := Lib.hid (by rw [List.length_append, hy1.out]; rfl)
      have haw : IntKind.i64.wrap ((a : Int) + (i : Int)) = (a : Int) + (i : Int) := IntWalk.i64_in _ ⟨by omega, by omega⟩
      have hbw : IntKind.i64.wrap ((b : Int) + (i : Int)) = (b : Int) + (i : Int) := IntWalk.i64_in _ ⟨by omega, by omega⟩
      have haT : ((a : Int) + (i : Int)).toNat = a + i := by omega
      have hbT : ((b : Int) + (i : Int)).toNat = b + i := by omega
      have haI : (a : Int) + (i : Int) < (N : Int) := by omega
      have hbI : (b : Int) + (i : Int) < (N : Int) := by omega
      clear hg1 hg2 hsw hLn e1 e2 el1 hia hib hxl hL
      go_upto_region 3 with (fail)
      refine wp_region_pres (fun _ w1 => Own w0 w1 (slc 124 2 (.slice (some ⟨g, 0, none⟩) N c) N (rows ce L) :: ps)) 20 [] [4, 5, 6, 7] (by kernel_rfl) (by kernel_rfl) (by kernel_rfl) (by kernel_rfl) (fun _ _ d _ _ h => by cases d <;> exact h) ⟨_, _, rfl, fun w => (by first | rfl | (go_simp; rfl)), _, _, rfl, fun w => (by first | rfl | (go_simp; rfl)), _, _, rfl, fun w => (by first | rfl | (go_simp; rfl)), _, _, rfl, fun w => (by first | rfl | (go_simp; rfl)), rfl⟩ H.drew ?_
      simp only [List.take_succ_cons, List.take_zero, List.drop_succ_cons, List.drop_zero]
      repeat
        first
        | (refine calm_value (v := ?_) (by decide) rfl (fun σ w1 hS => ?_) ?_
           rotate_left
           · obtain ⟨c1, c1'⟩ := el hS.rd HG1.out; obtain ⟨c2, c2'⟩ := el hS.rd HG2.out
             first | (go_simp; rfl) | rfl
           simp only [Act.put, List.setIfInBounds_toArray, List.set_cons_zero, List.set_cons_succ])
        | (refine calm_skip (by decide) rfl ?_
           simp only [Act.put, List.setIfInBounds_toArray, List.set_cons_zero, List.set_cons_succ])
      refine calm_nil ?_
      intro σ2 wd2 _ H2
      simp only [putNew, List.foldl_nil]
      clear H
      go_wp2_with (first
        | (refine wpList_store_elem rfl _ _ rfl (i := a + i) (by first | rfl | (rw [Nat.mul_one]; rfl)) H2 (ce v) rfl (by kernel_rfl) rfl (by omega) (e_one v) ?_; clear H2; intro w5 H; rw [E1.out] at H)
        | (refine wpList_store_elem rfl _ _ rfl (i := b + i) (by first | rfl | (rw [Nat.mul_one]; rfl)) H (ce u) rfl (by kernel_rfl) rfl (by omega) (e_one u) ?_; clear H; intro w6 H; rw [E2.out] at H))
      go_roundw
      case rel => exact ⟨i + 1, x1 ++ [u], x3, y1 ++ [v], y3, by omega, by go_num, hX', hY', hx1', hy1', H⟩
      case measure => simp [intOf]; omega
    · obtain rfl : i = n := by omega
      have hx2 : x2 = [] := by
        have h1 := HX.out; have h2 := hx1.out
        rw [hx.out, List.length_append] at h1
        exact List.eq_nil_of_length_eq_zero (by omega)
      have hy2 : y2 = [] := by
        have h1 := HX.out; have h2 := hy1.out; have h3 := HY.out
        rw [hy.out, List.length_append] at h3
        exact List.eq_nil_of_length_eq_zero (by omega)
      subst hx2 hy2
      have ex : x1 = x := by rw [hx.out, List.append_nil]
      have ey : y1 = y := by rw [hy.out, List.append_nil]
      have e : p ++ y1 ++ [] ++ m ++ x1 ++ [] ++ q = p ++ y ++ m ++ x ++ q := by rw [ex, ey]; simp
      rw [e] at H
      clear e ex ey
      go_wp2
      go_end0
      exact ⟨_, rfl, H⟩
end
end SC
end Go.Proofs.Ytljejkdkjnbmhaa
/- huff: package-merge, plainly: sums, rows of coins, what is taken of them, and why nothing costs less. No program in sight. -/
namespace Go.Proofs.Ytljejkdkjnbmhaa

/-! ### sums -/
def sumF {α : Type} (f : α → Int) : List α → Int
  | [] => 0
  | x :: t => f x + sumF f t
section
variable {α β : Type} {f g : α → Int}
theorem sumF_cons (x : α) (t : List α) : sumF f (x :: t) = f x + sumF f t := rfl
theorem sumF_append (a b : List α) : sumF f (a ++ b) = sumF f a + sumF f b := by
  induction a with
  | nil => simp [sumF]
  | cons x t ih => rw [List.cons_append, sumF_cons, sumF_cons, ih]; omega
theorem sumF_perm {a b : List α} (h : a.Perm b) : sumF f a = sumF f b := by
  induction h with
  | nil => rfl
  | cons x _ ih => rw [sumF_cons, sumF_cons, ih]
  | swap x y l => simp only [sumF_cons]; omega
  | trans _ _ h1 h2 => exact h1.trans h2
theorem sumF_congr {l : List α} (h : ∀ x ∈ l, f x = g x) : sumF f l = sumF g l := by
  induction l with
  | nil => rfl
  | cons x t ih => rw [sumF_cons, sumF_cons, h x (by simp), ih fun y hy => h y (by simp [hy])]
theorem sumF_map (m : β → α) (l : List β) : sumF f (l.map m) = sumF (fun x => f (m x)) l := by
  induction l with
  | nil => rfl
  | cons x t ih => rw [List.map_cons, sumF_cons, sumF_cons, ih]
theorem sumF_nonneg {l : List α} (h : ∀ x ∈ l, 0 ≤ f x) : 0 ≤ sumF f l := by
  induction l with
  | nil => exact Int.le_refl _
  | cons x t ih =>
    rw [sumF_cons]
    have := h x (by simp)
    have := ih fun y hy => h y (by simp [hy])
    omega
theorem sumF_filter (p : α → Bool) (l : List α) : sumF f l = sumF f (l.filter p) + sumF f (l.filter fun x => !p x) := by
  induction l with
  | nil => rfl
  | cons x t ih =>
    rw [sumF_cons, ih, List.filter_cons, List.filter_cons]
    cases p x <;> simp [sumF_cons] <;> omega
theorem sumF_const (c : Int) (l : List α) : sumF (fun _ => c) l = l.length * c := by
  induction l with
  | nil => simp [sumF]
  | cons x t ih => rw [sumF_cons, ih, List.length_cons, Int.natCast_add, Int.add_mul]; simp; omega
end
/-! ### the least of a sorted row -/
section
variable {α : Type} {key : α → Int}
end

/-! ### rows -/
def pairsF : List Coin → List Coin
  | a :: b :: t => ⟨a.w + b.w, true⟩ :: pairsF t
  | _ => []
def rowF (base ahead : List Coin) : List Coin := sortF Coin.w (base ++ pairsF ahead)
def rowsF (base : List Coin) : Nat → List Coin
  | 0 => base
  | i + 1 => rowF base (rowsF base i)
/-- How many pairs are among the first so many. -/
def npF (l : List Coin) (n : Nat) : Nat := (l.take n).countP fun c => c.pair
/-- How many singles are taken, row by row, from the last on. -/
def cntF (base : List Coin) : Nat → Nat → List Nat
  | 0, n => [n - npF (rowsF base 0) n]
  | i + 1, n => (n - npF (rowsF base (i + 1)) n) :: cntF base i (2 * npF (rowsF base (i + 1)) n)

theorem pairsF_length : ∀ l : List Coin, (pairsF l).length = l.length / 2
  | [] => rfl
  | [_] => by simp [pairsF]
  | a :: b :: t => by rw [pairsF, List.length_cons, pairsF_length t]; simp only [List.length_cons]; omega
theorem pairsF_pair : ∀ (l : List Coin) (c : Coin), c ∈ pairsF l → c.pair = true
  | [], _, h => by simp [pairsF] at h
  | [_], _, h => by simp [pairsF] at h
  | a :: b :: t, c, h => by
    rw [pairsF] at h
    rcases List.mem_cons.1 h with rfl | h
    · rfl
    · exact pairsF_pair t c h
theorem pairsF_ge : ∀ (l : List Coin) (m : Int), (∀ c ∈ l, m ≤ c.w) → ∀ c ∈ pairsF l, m + m ≤ c.w
  | [], _, _, _, h => by simp [pairsF] at h
  | [_], _, _, _, h => by simp [pairsF] at h
  | a :: b :: t, m, hm, c, h => by
    rw [pairsF] at h
    rcases List.mem_cons.1 h with rfl | h
    · have := hm a (by simp)
      have := hm b (by simp)
      show m + m ≤ a.w + b.w
      omega
    · exact pairsF_ge t m (fun c hc => hm c (by simp [hc])) c h
theorem pairsF_le : ∀ (l : List Coin) (m : Int), (∀ c ∈ l, c.w ≤ m) → ∀ c ∈ pairsF l, c.w ≤ m + m
  | [], _, _, _, h => by simp [pairsF] at h
  | [_], _, _, _, h => by simp [pairsF] at h
  | a :: b :: t, m, hm, c, h => by
    rw [pairsF] at h
    rcases List.mem_cons.1 h with rfl | h
    · have := hm a (by simp)
      have := hm b (by simp)
      show a.w + b.w ≤ m + m
      omega
    · exact pairsF_le t m (fun c hc => hm c (by simp [hc])) c h
theorem pairsF_srt : ∀ l : List Coin, Srt Coin.w l → Srt Coin.w (pairsF l)
  | [], _ => by simp [pairsF, Srt]
  | [_], _ => by simp [pairsF, Srt]
  | a :: b :: t, h => by
    rw [pairsF]
    have h1 : ∀ x ∈ t, a.w ≤ x.w := fun x hx => (List.pairwise_cons.1 h).1 x (by simp [hx])
    have h2 : ∀ x ∈ t, b.w ≤ x.w := fun x hx => (List.pairwise_cons.1 (List.pairwise_cons.1 h).2).1 x hx
    have h0 : a.w ≤ b.w := (List.pairwise_cons.1 h).1 b (by simp)
    refine List.pairwise_cons.2 ⟨fun c hc => ?_, pairsF_srt t (List.pairwise_cons.1 (List.pairwise_cons.1 h).2).2⟩
    have := pairsF_ge t b.w h2 c hc
    show a.w + b.w ≤ c.w
    omega
/-- What singles are to be. -/
structure Base (base : List Coin) : Prop where
  single : ∀ c ∈ base, c.pair = false
  srt : Srt Coin.w base
  pos : ∀ c ∈ base, 1 ≤ c.w

theorem StEq.filter {α : Type} {key : α → Int} {l m : List α} (h : StEq key l m) (p : α → Bool) : StEq key (l.filter p) (m.filter p) := fun k => by
  rw [List.filter_filter, List.filter_filter]
  have := congrArg (List.filter p) (h k)
  rw [List.filter_filter, List.filter_filter] at this
  simpa [Bool.and_comm] using this
section
variable {base : List Coin} (hb : Base base)
theorem rowF_srt (base a : List Coin) : Srt Coin.w (rowF base a) := (sortF_law _).1
theorem rowF_perm (base a : List Coin) : (base ++ pairsF a).Perm (rowF base a) := (sortF_law _).2.perm
include hb
theorem rowsF_srt (i : Nat) : Srt Coin.w (rowsF base i) := by
  cases i with
  | zero => exact hb.srt
  | succ i => exact rowF_srt _ _
theorem rowF_pairs (a : List Coin) (ha : Srt Coin.w a) : (rowF base a).filter (fun c => c.pair) = pairsF a := by
  have h1 := (sortF_law (key := Coin.w) (base ++ pairsF a)).2.filter (fun c => c.pair)
  have e : (base ++ pairsF a).filter (fun c => c.pair) = pairsF a := by
    rw [List.filter_append, List.filter_eq_nil_iff.2 (fun c hc => by simp [hb.single c hc]), List.nil_append, List.filter_eq_self.2 (fun c hc => pairsF_pair a c hc)]
  rw [e] at h1
  exact (StEq.unique (pairsF_srt a ha) ((rowF_srt base a).filter _) h1).symm
theorem rowF_singles (a : List Coin) : (rowF base a).filter (fun c => !c.pair) = base := by
  have h1 := (sortF_law (key := Coin.w) (base ++ pairsF a)).2.filter (fun c => !c.pair)
  have e : (base ++ pairsF a).filter (fun c => !c.pair) = base := by
    rw [List.filter_append, List.filter_eq_self.2 (fun c hc => by simp [hb.single c hc]), List.filter_eq_nil_iff.2 (fun c hc => by simp [pairsF_pair a c hc]), List.append_nil]
  rw [e] at h1
  exact (StEq.unique hb.srt ((rowF_srt base a).filter _) h1).symm
theorem rowsF_singles (i : Nat) : (rowsF base i).filter (fun c => !c.pair) = base := by
  cases i with
  | zero => exact List.filter_eq_self.2 (fun c hc => by simp [hb.single c hc])
  | succ i => exact rowF_singles hb _
theorem rowsF_zero_np (n : Nat) : npF (rowsF base 0) n = 0 := by
  unfold npF
  rw [List.countP_eq_zero]
  intro c hc
  simp [hb.single c (List.mem_of_mem_take hc)]
theorem rowsF_pos (i : Nat) : ∀ c ∈ rowsF base i, 1 ≤ c.w := by
  induction i with
  | zero => exact hb.pos
  | succ i ih =>
    intro c hc
    rcases List.mem_append.1 ((rowF_perm base _).symm.subset hc) with h | h
    · exact hb.pos c h
    · have := pairsF_ge _ 1 ih c h; omega
omit hb
theorem rowsF_le (i : Nat) (m : Int) (hm : 0 ≤ m) (h : ∀ c ∈ base, c.w ≤ m) : ∀ c ∈ rowsF base i, c.w ≤ 2 ^ i * m := by
  induction i with
  | zero => intro c hc; have := h c hc; simpa using this
  | succ i ih =>
    intro c hc
    have e : (2 : Int) ^ (i + 1) * m = 2 ^ i * m + 2 ^ i * m := by rw [Int.pow_succ, Int.mul_comm (2 ^ i) 2, Int.mul_assoc]; omega
    rcases List.mem_append.1 ((rowF_perm base _).symm.subset hc) with h1 | h1
    · have h2 := h c h1
      have h3 : (1 : Int) ≤ 2 ^ (i + 1) := by
        have : (0 : Int) < 2 ^ (i + 1) := Int.pow_pos (by omega)
        omega
      have := Int.mul_le_mul_of_nonneg_right h3 hm
      omega
    · rw [e]
      exact pairsF_le _ _ ih c h1
theorem rowsF_length (i : Nat) : (rowsF base (i + 1)).length = base.length + (rowsF base i).length / 2 := by
  show (rowF base (rowsF base i)).length = _
  rw [← (rowF_perm base _).length_eq, List.length_append, pairsF_length]
/-- All that is asked for is there. -/
theorem rowsF_enough (i : Nat) : base.length ≤ 2 ^ (i + 1) → 2 * base.length ≤ (rowsF base i).length + 2 := by
  have key : ∀ i, (2 * base.length - (rowsF base i).length) * 2 ^ i < base.length + 2 ^ i := by
    intro i
    induction i with
    | zero => simp [rowsF]; omega
    | succ i ih =>
      rw [rowsF_length, Nat.pow_succ]
      have e : 2 * base.length - (base.length + (rowsF base i).length / 2) ≤ (2 * base.length - (rowsF base i).length + 1) / 2 := by omega
      have h1 : (2 * base.length - (base.length + (rowsF base i).length / 2)) * 2 ≤ 2 * base.length - (rowsF base i).length + 1 := by omega
      have h2 := Nat.mul_le_mul_right (2 ^ i) h1
      rw [Nat.add_mul, Nat.one_mul] at h2
      have h3 : (2 * base.length - (base.length + (rowsF base i).length / 2)) * (2 ^ i * 2) = (2 * base.length - (base.length + (rowsF base i).length / 2)) * 2 * 2 ^ i := by
        rw [Nat.mul_assoc, Nat.mul_comm 2 (2 ^ i)]
      omega
  intro h
  have h1 := key i
  rw [Nat.pow_succ] at h
  have hp : 0 < 2 ^ i := Nat.pow_pos (by omega)
  rcases Nat.lt_or_ge (2 * base.length - (rowsF base i).length) 3 with h2 | h2
  · omega
  · have := Nat.mul_le_mul_right (2 ^ i) h2
    omega
theorem npF_le (l : List Coin) (n : Nat) : npF l n ≤ n := by
  unfold npF
  exact Nat.le_trans List.countP_le_length (by rw [List.length_take]; omega)
theorem take_filter {α : Type} (l : List α) (n : Nat) (q : α → Bool) : (l.take n).filter q = (l.filter q).take ((l.take n).countP q) := by
  have e : l.filter q = (l.take n).filter q ++ (l.drop n).filter q := by rw [← List.filter_append, List.take_append_drop]
  rw [e, List.countP_eq_length_filter, List.take_left]
include hb
/-- The pairs that are taken. -/
theorem np_pairs (i n : Nat) : npF (rowsF base (i + 1)) n ≤ (pairsF (rowsF base i)).length ∧ ((rowsF base (i + 1)).take n).filter (fun c => c.pair) = (pairsF (rowsF base i)).take (npF (rowsF base (i + 1)) n) := by
  have e := take_filter (rowsF base (i + 1)) n (fun c => c.pair)
  have e2 : (rowsF base (i + 1)).filter (fun c => c.pair) = pairsF (rowsF base i) := rowF_pairs hb _ (rowsF_srt hb i)
  rw [e2] at e
  refine ⟨?_, e⟩
  rw [← e2, ← List.countP_eq_length_filter]
  exact (List.take_sublist n (rowsF base (i + 1))).countP_le
theorem np_two (i n : Nat) : 2 * npF (rowsF base (i + 1)) n ≤ (rowsF base i).length := by
  have := (np_pairs hb i n).1
  rw [pairsF_length] at this
  omega
/-- The singles that are taken. -/
theorem ns_singles (i n : Nat) (hn : n ≤ (rowsF base i).length) : n - npF (rowsF base i) n ≤ base.length ∧ ((rowsF base i).take n).filter (fun c => !c.pair) = base.take (n - npF (rowsF base i) n) := by
  have e := take_filter (rowsF base i) n (fun c => !c.pair)
  rw [rowsF_singles hb] at e
  have hc : ((rowsF base i).take n).countP (fun c => !c.pair) = n - npF (rowsF base i) n := by
    have h := List.length_eq_countP_add_countP (fun c : Coin => c.pair) (l := (rowsF base i).take n)
    rw [List.length_take, Nat.min_eq_left hn] at h
    have h2 : ((rowsF base i).take n).countP (fun c => !c.pair) = ((rowsF base i).take n).countP (fun c => decide (¬ c.pair = true)) := by
      congr 1; funext c; cases c.pair <;> rfl
    rw [h2]
    unfold npF
    omega
  rw [hc] at e
  refine ⟨?_, e⟩
  rw [← hc]
  have h3 := (List.take_sublist n (rowsF base i)).countP_le (p := fun c => !c.pair)
  rw [List.countP_eq_length_filter (l := rowsF base i), rowsF_singles hb] at h3
  exact h3
/-- Each row takes no more singles than the one behind it. -/
theorem ns_falls (i n m : Nat) (hn : n ≤ (rowsF base (i + 1)).length) (hm : m = 2 * npF (rowsF base (i + 1)) n) :
    m - npF (rowsF base i) m ≤ n - npF (rowsF base (i + 1)) n := by
  subst hm
  have hs1 := ns_singles hb (i + 1) n hn
  have hs0 := ns_singles hb i _ (np_two hb i n)
  have hp := np_pairs hb i n
  obtain ⟨P, hP⟩ : ∃ P, P = npF (rowsF base (i + 1)) n := ⟨_, rfl⟩
  obtain ⟨s1, h1⟩ : ∃ s, s = n - P := ⟨_, rfl⟩
  obtain ⟨s0, h0⟩ : ∃ s, s = 2 * P - npF (rowsF base i) (2 * P) := ⟨_, rfl⟩
  rw [← hP] at hs1 hs0 hp ⊢
  rw [← h1] at hs1 ⊢
  rw [← h0] at hs0 ⊢
  refine Nat.le_of_not_lt fun hlt => ?_
  have hk : s1 < base.length := by omega
  -- the single number s1 is among the first 2P of row i
  have hin : base[s1] ∈ (rowsF base i).take (2 * P) := by
    have : base[s1] ∈ ((rowsF base i).take (2 * P)).filter (fun c => !c.pair) := by
      rw [hs0.2]
      exact List.mem_take_iff_getElem.2 ⟨s1, by omega, rfl⟩
    exact (List.mem_filter.1 this).1
  -- so a pair among the first P weighs more
  have hpair : ∀ (l : List Coin) (P : Nat) (c : Coin), (∀ c ∈ l, 1 ≤ c.w) → 2 * P ≤ l.length → c ∈ l.take (2 * P) → ∃ d ∈ (pairsF l).take P, c.w < d.w := by
    intro l
    induction l using pairsF.induct with
    | case1 a b t ih =>
      intro P c hpos hl hc
      cases P with
      | zero => simp at hc
      | succ P =>
        have e : 2 * (P + 1) = 2 * P + 1 + 1 := by omega
        rw [e, List.take_succ_cons, List.take_succ_cons] at hc
        rw [pairsF, List.take_succ_cons]
        have ha := hpos a (by simp)
        have hb := hpos b (by simp)
        rcases List.mem_cons.1 hc with rfl | hc
        · exact ⟨_, List.mem_cons_self, by show c.w < c.w + b.w; omega⟩
        · rcases List.mem_cons.1 hc with rfl | hc
          · exact ⟨_, List.mem_cons_self, by show c.w < a.w + c.w; omega⟩
          · obtain ⟨d, hd, hlt⟩ := ih P c (fun c hc => hpos c (by simp [hc])) (by simp at hl; omega) hc
            exact ⟨d, List.mem_cons_of_mem _ hd, hlt⟩
    | case2 l h =>
      intro P c _ hl hc
      have : P = 0 := by
        match l, h with
        | [], _ => simp at hl; omega
        | [_], _ => simp at hl; omega
        | a :: b :: t, h => exact absurd rfl (h a b t)
      subst this
      simp at hc
  obtain ⟨d, hd, hlt2⟩ := hpair (rowsF base i) P base[s1] (rowsF_pos hb i) (by rw [hP]; exact np_two hb i n) hin
  rw [← hp.2] at hd
  have hd' := (List.mem_filter.1 hd).1
  -- the row is sorted: all that weighs less lies ahead of it
  have hall : base[s1] ∈ (rowsF base (i + 1)).take n := by
    have hmem : base[s1] ∈ rowsF base (i + 1) := by
      have : base[s1] ∈ (rowsF base (i + 1)).filter (fun c => !c.pair) := by rw [rowsF_singles hb]; exact List.getElem_mem _
      exact (List.mem_filter.1 this).1
    have hsp := List.take_append_drop n (rowsF base (i + 1))
    rw [← hsp] at hmem
    rcases List.mem_append.1 hmem with h | h
    · exact h
    · exfalso
      have := (by rw [hsp]; exact rowsF_srt hb (i + 1) : Srt Coin.w ((rowsF base (i + 1)).take n ++ (rowsF base (i + 1)).drop n)).across d hd' _ h
      omega
  have : base[s1] ∈ ((rowsF base (i + 1)).take n).filter (fun c => !c.pair) := List.mem_filter.2 ⟨hall, by simp [hb.single _ (List.getElem_mem hk)]⟩
  rw [hs1.2] at this
  -- but it is not among the first s1 of the singles by weight alone: count
  have hcount : (base.take (s1 + 1)).length ≤ s1 := by
    have hsub : ∀ c ∈ base.take (s1 + 1), c.w ≤ base[s1].w := by
      intro c hc
      obtain ⟨j, hj, rfl⟩ := List.getElem_of_mem hc
      rw [List.length_take] at hj
      rw [List.getElem_take]
      rcases Nat.lt_or_ge j s1 with h | h
      · exact List.pairwise_iff_getElem.1 hb.srt j s1 (by omega) hk h
      · have : j = s1 := by omega
        subst this; exact Int.le_refl _
    have hpre : (base.take (s1 + 1)).countP (fun c => decide (c.w < d.w)) = s1 + 1 := by
      rw [List.countP_eq_length.2 (fun c hc => by have := hsub c hc; simp; omega), List.length_take]; omega
    have hle : base.countP (fun c => decide (c.w < d.w)) ≤ s1 := by
      have e1 : base.countP (fun c => decide (c.w < d.w)) = (((rowsF base (i + 1)).filter (fun c => !c.pair))).countP (fun c => decide (c.w < d.w)) := by rw [rowsF_singles hb]
      have e2 : ((rowsF base (i + 1)).drop n).countP (fun c => decide (c.w < d.w)) = 0 := by
        rw [List.countP_eq_zero]
        intro c hc
        have hsp := List.take_append_drop n (rowsF base (i + 1))
        have := (by rw [hsp]; exact rowsF_srt hb (i + 1) : Srt Coin.w ((rowsF base (i + 1)).take n ++ (rowsF base (i + 1)).drop n)).across d hd' _ hc
        simp; omega
      rw [e1, ← List.take_append_drop n (rowsF base (i + 1)), List.filter_append, List.countP_append, hs1.2]
      have e3 : (((rowsF base (i + 1)).drop n).filter (fun c => !c.pair)).countP (fun c => decide (c.w < d.w)) = 0 := by
        rw [List.countP_eq_zero] at e2 ⊢
        intro c hc
        exact e2 c (List.mem_filter.1 hc).1
      rw [e3]
      have := List.countP_le_length (p := fun c : Coin => decide (c.w < d.w)) (l := base.take s1)
      rw [List.length_take] at this
      omega
    have := (List.take_sublist (s1 + 1) base).countP_le (p := fun c : Coin => decide (c.w < d.w))
    omega
  rw [List.length_take] at hcount
  omega
end
end Go.Proofs.Ytljejkdkjnbmhaa
/- huff: package-merge, plainly: nothing costs less; the weight is whole. No program in sight. -/
namespace Go.Proofs.Ytljejkdkjnbmhaa

section
variable {base : List Coin} (hb : Base base)
/-- What a choice of singles, row by row, is worth; and what it weighs. -/
def worthF (C : Nat → List Coin) : Nat → Nat
  | 0 => (C 0).length
  | i + 1 => worthF C i + (C (i + 1)).length * 2 ^ (i + 1)
def weighF (C : Nat → List Coin) : Nat → Int
  | 0 => sumF Coin.w (C 0)
  | i + 1 => weighF C i + sumF Coin.w (C (i + 1))
include hb
/-! ### how many are taken -/
omit hb in
theorem cntF_length (i n : Nat) : (cntF base i n).length = i + 1 := by
  induction i generalizing n with
  | zero => rfl
  | succ i ih => rw [cntF, List.length_cons, ih]
omit hb in
theorem cntF_head (i n : Nat) : ∃ t, cntF base i n = (n - npF (rowsF base i) n) :: t := by
  cases i with
  | zero => exact ⟨[], rfl⟩
  | succ i => exact ⟨_, rfl⟩
theorem cntF_le (i : Nat) : ∀ n, n ≤ (rowsF base i).length → ∀ s ∈ cntF base i n, s ≤ base.length := by
  induction i with
  | zero =>
    intro n hn s hs
    simp only [cntF, List.mem_singleton] at hs
    subst hs
    exact (ns_singles hb 0 n hn).1
  | succ i ih =>
    intro n hn s hs
    rw [cntF] at hs
    rcases List.mem_cons.1 hs with rfl | hs
    · exact (ns_singles hb (i + 1) n hn).1
    · exact ih _ (np_two hb i n) s hs
theorem cntF_falls (i : Nat) : ∀ n, n ≤ (rowsF base i).length → (cntF base i n).Pairwise (fun a b => b ≤ a) := by
  induction i with
  | zero => intro n _; simp [cntF]
  | succ i ih =>
    intro n hn
    have h := ih _ (np_two hb i n)
    rw [cntF]
    refine List.pairwise_cons.2 ⟨fun b hb' => ?_, h⟩
    have hf := ns_falls hb i n _ hn rfl
    obtain ⟨t, ht⟩ := cntF_head (base := base) i (2 * npF (rowsF base (i + 1)) n)
    rw [ht] at h hb'
    rcases List.mem_cons.1 hb' with rfl | hb'
    · exact hf
    · exact Nat.le_trans ((List.pairwise_cons.1 h).1 b hb') hf
/-- The last row has all of them. -/
theorem cntF_all (i : Nat) (h2 : 2 ≤ base.length) : ∀ n, n ≤ (rowsF base i).length → 2 * base.length ≤ n + 2 → n - npF (rowsF base i) n = base.length := by
  induction i with
  | zero =>
    intro n hn h
    have h1 := (ns_singles hb 0 n hn).1
    rw [rowsF_zero_np hb] at h1 ⊢
    omega
  | succ i ih =>
    intro n hn h
    have h1 := (ns_singles hb (i + 1) n hn).1
    have hf := ns_falls hb i n _ hn rfl
    have h3 := npF_le (rowsF base (i + 1)) n
    rcases Nat.lt_or_ge (n - npF (rowsF base (i + 1)) n) base.length with hlt | hge
    · have := ih _ (np_two hb i n) (by omega)
      omega
    · omega
omit hb in
def krF : List Nat → Nat
  | [] => 0
  | s :: t => s * 2 ^ t.length + krF t
theorem krF_cnt (i : Nat) : ∀ n, krF (cntF base i n) = n * 2 ^ i := by
  induction i with
  | zero => intro n; rw [cntF, rowsF_zero_np hb]; simp [krF]
  | succ i ih =>
    intro n
    have h := npF_le (rowsF base (i + 1)) n
    rw [cntF, krF, ih, cntF_length, Nat.mul_comm 2, Nat.mul_assoc, Nat.mul_comm 2, ← Nat.pow_succ, ← Nat.add_mul, Nat.sub_add_cancel h]
end

/-! ### lengths by place -/
def addF (s : Nat) (ls : List Nat) : List Nat := (ls.take s).map (· + 1) ++ ls.drop s
def lensF (cs : List Nat) (ls : List Nat) : List Nat := cs.foldl (fun ls s => addF s ls) ls
theorem addF_length (s : Nat) (ls : List Nat) : (addF s ls).length = ls.length := by
  unfold addF
  rw [List.length_append, List.length_map, List.length_take, List.length_drop]; omega
theorem addF_get (s : Nat) (ls : List Nat) (k : Nat) : (addF s ls).getD k 0 = if k < s ∧ k < ls.length then ls.getD k 0 + 1 else ls.getD k 0 := by
  unfold addF
  simp only [List.getD_eq_getElem?_getD]
  by_cases h : k < s ∧ k < ls.length
  · rw [if_pos h, List.getElem?_append_left (by simp; omega), List.getElem?_map, List.getElem?_take, if_pos h.1, List.getElem?_eq_getElem h.2]
    rfl
  · rw [if_neg h]
    rcases Nat.lt_or_ge k ls.length with h1 | h1
    · rw [List.getElem?_append_right (by simp; omega), List.length_map, List.length_take, List.getElem?_drop]
      congr 2; omega
    · rw [List.getElem?_eq_none (by simp; omega), List.getElem?_eq_none h1]
def kwF (ls : List Nat) : Int := sumF (fun l => (2 : Int) ^ (15 - l)) ls
theorem kw_addF {s t : Nat} {ls : List Nat} (hs : s ≤ ls.length) (h : ∀ k, k < s → ls.getD k 0 = t) (ht : t + 1 ≤ 15) : kwF (addF s ls) = kwF ls - s * 2 ^ (14 - t) := by
  have e : kwF ls = kwF (ls.take s) + kwF (ls.drop s) := by
    unfold kwF
    rw [← sumF_append, List.take_append_drop]
  have hall : ∀ l ∈ ls.take s, l = t := by
    intro l hl
    obtain ⟨k, hk, rfl⟩ := List.getElem_of_mem hl
    rw [List.length_take] at hk
    have := h k (by omega)
    rw [List.getD_eq_getElem?_getD, List.getElem?_eq_getElem (by omega)] at this
    rw [List.getElem_take]
    exact this
  have e1 : kwF (ls.take s) = s * 2 ^ (15 - t) := by
    unfold kwF
    rw [sumF_congr (g := fun _ => (2 : Int) ^ (15 - t)) (fun l hl => by rw [hall l hl]), sumF_const, List.length_take, Nat.min_eq_left hs]
  have e2 : kwF ((ls.take s).map (· + 1)) = s * 2 ^ (14 - t) := by
    unfold kwF
    rw [sumF_map, sumF_congr (g := fun _ => (2 : Int) ^ (14 - t)) (fun l hl => by rw [hall l hl, show 15 - (t + 1) = 14 - t by omega]), sumF_const, List.length_take, Nat.min_eq_left hs]
  have e3 : (2 : Int) ^ (15 - t) = 2 ^ (14 - t) + 2 ^ (14 - t) := by
    rw [show 15 - t = (14 - t) + 1 by omega, Int.pow_succ]; omega
  unfold addF
  rw [show kwF ((ls.take s).map (· + 1) ++ ls.drop s) = kwF ((ls.take s).map (· + 1)) + kwF (ls.drop s) from sumF_append _ _, e2, e, e1, e3, Int.mul_add]
  omega
theorem kw_lensF (cs : List Nat) : ∀ (t : Nat) (ls : List Nat), cs.Pairwise (fun a b => b ≤ a) → (∀ s ∈ cs, s ≤ ls.length) → (∀ s ∈ cs, ∀ k, k < s → ls.getD k 0 = t) → t + cs.length ≤ 15 →
    kwF (lensF cs ls) = kwF ls - krF cs * 2 ^ (15 - t - cs.length) := by
  induction cs with
  | nil => intro t ls _ _ _ _; simp [lensF, krF]
  | cons s cs ih =>
    intro t ls hp hle heq ht
    simp only [List.length_cons] at ht
    show kwF (lensF cs (addF s ls)) = _
    rw [ih (t + 1) (addF s ls) (List.pairwise_cons.1 hp).2 (fun x hx => by rw [addF_length]; exact hle x (by simp [hx])) (fun x hx k hk => ?_) (by omega), kw_addF (hle s (by simp)) (heq s (by simp)) (by omega), krF, List.length_cons]
    · have e : (2 : Int) ^ (14 - t) = 2 ^ cs.length * 2 ^ (15 - t - (cs.length + 1)) := by
        rw [← Int.pow_add]; congr 1; omega
      have e2 : 15 - (t + 1) - cs.length = 15 - t - (cs.length + 1) := by omega
      rw [e2, e]
      simp only [Int.natCast_add, Int.natCast_mul, Int.natCast_pow, Int.add_mul, Int.mul_assoc, Int.cast_ofNat_Int]
      omega
    · have h1 := (List.pairwise_cons.1 hp).1 x hx
      rw [addF_get, if_pos ⟨by omega, by have := hle x (by simp [hx]); omega⟩, heq s (by simp) k (by omega)]
theorem lensF_le (cs : List Nat) : ∀ ls k, (lensF cs ls).getD k 0 ≤ ls.getD k 0 + cs.length := by
  induction cs with
  | nil => intro ls k; exact Nat.le_refl _
  | cons s cs ih =>
    intro ls k
    have := ih (addF s ls) k
    show (lensF cs (addF s ls)).getD k 0 ≤ _
    rw [addF_get] at this
    rw [List.length_cons]
    split at this <;> omega
theorem lensF_ge (cs : List Nat) : ∀ ls k, ls.getD k 0 ≤ (lensF cs ls).getD k 0 := by
  induction cs with
  | nil => intro ls k; exact Nat.le_refl _
  | cons s cs ih =>
    intro ls k
    have := ih (addF s ls) k
    show _ ≤ (lensF cs (addF s ls)).getD k 0
    rw [addF_get] at this
    split at this <;> omega

theorem rep_zero (n k : Nat) : (List.replicate n 0).getD k 0 = 0 := by
  rw [List.getD_eq_getElem?_getD]
  rcases Nat.lt_or_ge k n with h | h
  · rw [List.getElem?_replicate, if_pos h]; rfl
  · rw [List.getElem?_replicate, if_neg (by omega)]; rfl
/-- Of sorted singles, two or more, not too many: lengths of which the weight is whole. -/
theorem whole {base : List Coin} (hb : Base base) (L : Nat) (h2 : 2 ≤ base.length) (hL : 1 ≤ L ∧ L ≤ 15) (hN : base.length ≤ 2 ^ L) :
    kwF (lensF (cntF base (L - 1) (2 * base.length - 2)) (List.replicate base.length 0)) = 2 ^ 15 ∧
    ∀ k, k < base.length → 1 ≤ (lensF (cntF base (L - 1) (2 * base.length - 2)) (List.replicate base.length 0)).getD k 0 ∧ (lensF (cntF base (L - 1) (2 * base.length - 2)) (List.replicate base.length 0)).getD k 0 ≤ L := by
  obtain ⟨i, rfl⟩ : ∃ i, L = i + 1 := ⟨L - 1, by omega⟩
  rw [Nat.add_sub_cancel]
  have hn : 2 * base.length - 2 ≤ (rowsF base i).length := by have := rowsF_enough (base := base) i hN; omega
  refine ⟨?_, fun k hk => ?_⟩
  · rw [kw_lensF _ 0 _ (cntF_falls hb i _ hn) (fun s hs => by rw [List.length_replicate]; exact cntF_le hb i _ hn s hs) (fun s hs k _ => rep_zero _ _) (by rw [cntF_length]; omega), krF_cnt hb, cntF_length]
    have e : kwF (List.replicate base.length 0) = base.length * 2 ^ 15 := by
      unfold kwF
      rw [sumF_congr (g := fun _ => (2 : Int) ^ 15) (fun l hl => by rw [(List.mem_replicate.1 hl).2]), sumF_const, List.length_replicate]
    rw [e]
    have e2 : (((2 * base.length - 2) * 2 ^ i : Nat) : Int) * 2 ^ (15 - 0 - (i + 1)) = ((2 * base.length - 2 : Nat) : Int) * 2 ^ 14 := by
      rw [Int.natCast_mul, Int.mul_assoc, Int.natCast_pow, show ((2 : Nat) : Int) = 2 by rfl, ← Int.pow_add]
      congr 2; omega
    rw [e2]
    have : ((2 * base.length - 2 : Nat) : Int) = 2 * base.length - 2 := by omega
    rw [this]
    omega
  · obtain ⟨t, ht⟩ := cntF_head (base := base) i (2 * base.length - 2)
    constructor
    · rw [ht, cntF_all hb i h2 _ hn (by omega)]
      have := lensF_ge t (addF base.length (List.replicate base.length 0)) k
      rw [addF_get, if_pos ⟨hk, by simpa using hk⟩] at this
      show 1 ≤ (lensF t (addF base.length (List.replicate base.length 0))).getD k 0
      omega
    · have := lensF_le (cntF base i (2 * base.length - 2)) (List.replicate base.length 0) k
      rw [cntF_length, rep_zero] at this
      omega
end Go.Proofs.Ytljejkdkjnbmhaa
/- huff: lengths of frequencies, plainly. No program in sight. -/
namespace Go.Proofs.Ytljejkdkjnbmhaa

/-- A symbol's frequency. -/
def frq (F : List Int) (x : Int) : Int := F.getD x.toNat 0
/-- The symbols in use, of the first k. -/
def usedN (F : List Int) : Nat → List Int
  | 0 => []
  | k + 1 => if 0 < F.getD k 0 then usedN F k ++ [(k : Int)] else usedN F k
def usedF (F : List Int) : List Int := usedN F F.length
def symsF (F : List Int) : List Int := sortF (frq F) (usedF F)
def coinOf (F : List Int) (s : Int) : Coin := ⟨frq F s, false⟩
def baseF (F : List Int) : List Coin := (symsF F).map (coinOf F)
def bump1 (o : List Int) (s : Int) : List Int := o.set s.toNat (o.getD s.toNat 0 + 1)
def bumpF (o : List Int) (l : List Int) : List Int := l.foldl bump1 o
def zerosF (n : Nat) : List Int := List.replicate n 0
def outF (syms : List Int) (cs : List Nat) (o : List Int) : List Int := cs.foldl (fun o c => bumpF o (syms.take c)) o
/-- The lengths. -/
def lengthsF (F : List Int) (L : Nat) : List Int :=
  if (symsF F).length < 2 then bumpF (zerosF F.length) (symsF F)
  else outF (symsF F) (cntF (baseF F) (L - 1) (2 * (symsF F).length - 2)) (zerosF F.length)

section
variable (F : List Int)
theorem usedN_mem (k : Nat) : ∀ x, x ∈ usedN F k ↔ ∃ s : Nat, x = s ∧ s < k ∧ 0 < F.getD s 0 := by
  induction k with
  | zero => intro x; simp [usedN]
  | succ k ih =>
    intro x
    rw [usedN]
    split
    · next h =>
      rw [List.mem_append, List.mem_singleton, ih]
      constructor
      · rintro (⟨s, rfl, h1, h2⟩ | rfl)
        · exact ⟨s, rfl, by omega, h2⟩
        · exact ⟨k, rfl, by omega, h⟩
      · rintro ⟨s, rfl, h1, h2⟩
        rcases Nat.lt_or_ge s k with h3 | h3
        · exact .inl ⟨s, rfl, h3, h2⟩
        · right; congr 1; omega
    · next h =>
      rw [ih]
      constructor
      · rintro ⟨s, rfl, h1, h2⟩
        exact ⟨s, rfl, by omega, h2⟩
      · rintro ⟨s, rfl, h1, h2⟩
        refine ⟨s, rfl, ?_, h2⟩
        rcases Nat.lt_or_ge s k with h3 | h3
        · exact h3
        · have : s = k := by omega
          subst this; exact absurd h2 h
theorem usedN_nodup (k : Nat) : (usedN F k).Nodup := by
  induction k with
  | zero => simp [usedN]
  | succ k ih =>
    rw [usedN]
    split
    · rw [List.nodup_append]
      refine ⟨ih, by simp, fun a ha b hb' => ?_⟩
      rw [usedN_mem] at ha
      obtain ⟨s, rfl, h1, _⟩ := ha
      rw [List.mem_singleton] at hb'
      subst hb'
      omega
    · exact ih
theorem usedN_length (k : Nat) : (usedN F k).length ≤ k := by
  induction k with
  | zero => simp [usedN]
  | succ k ih =>
    rw [usedN]
    split
    · rw [List.length_append]; simp; omega
    · omega
theorem syms_perm : (usedF F).Perm (symsF F) := (sortF_law _).2.perm
theorem syms_srt : Srt (frq F) (symsF F) := (sortF_law _).1
theorem syms_mem (x : Int) : x ∈ symsF F ↔ ∃ s : Nat, x = s ∧ s < F.length ∧ 0 < F.getD s 0 := by
  rw [← (syms_perm F).mem_iff]
  exact usedN_mem F _ x
theorem syms_nodup : (symsF F).Nodup := (syms_perm F).nodup_iff.1 (usedN_nodup F _)
theorem syms_length : (symsF F).length = (usedF F).length := (syms_perm F).length_eq.symm
theorem base_length : (baseF F).length = (symsF F).length := by unfold baseF; simp
theorem base_law : Base (baseF F) := by
  refine ⟨?_, ?_, ?_⟩
  · intro c hc
    obtain ⟨s, _, rfl⟩ := List.mem_map.1 hc
    rfl
  · exact List.pairwise_map.2 (syms_srt F)
  · intro c hc
    obtain ⟨s, hs, rfl⟩ := List.mem_map.1 hc
    obtain ⟨n, rfl, _, h⟩ := (syms_mem F s).1 hs
    show 1 ≤ F.getD (Int.toNat n) 0
    rw [Int.toNat_natCast]
    omega
end

/-! ### bumps -/
theorem bump1_length (o : List Int) (s : Int) : (bump1 o s).length = o.length := by simp [bump1]
theorem bumpF_length (l : List Int) : ∀ o, (bumpF o l).length = o.length := by
  induction l with
  | nil => intro _; rfl
  | cons s t ih => intro o; show (bumpF (bump1 o s) t).length = _; rw [ih, bump1_length]
theorem bump1_get (o : List Int) (s j : Nat) (hs : s < o.length) : (bump1 o s).getD j 0 = o.getD j 0 + if j = s then 1 else 0 := by
  unfold bump1
  simp only [List.getD_eq_getElem?_getD, Int.toNat_natCast]
  by_cases h : j = s
  · subst h
    rw [List.getElem?_set_self hs, if_pos rfl]
    rfl
  · rw [List.getElem?_set_ne (fun e => h e.symm), if_neg h, Int.add_zero]
theorem bumpF_get (l : List Int) : ∀ (o : List Int) (j : Nat), (∀ x ∈ l, ∃ s : Nat, x = s ∧ s < o.length) → (bumpF o l).getD j 0 = o.getD j 0 + (l.countP fun x => decide (x = (j : Int)) : Nat) := by
  induction l with
  | nil => intro o j _; simp [bumpF]
  | cons x t ih =>
    intro o j h
    obtain ⟨s, rfl, hs⟩ := h x (by simp)
    show (bumpF (bump1 o s) t).getD j 0 = _
    rw [ih _ j (fun x hx => by rw [bump1_length]; exact h x (by simp [hx])), bump1_get o s j hs, List.countP_cons]
    by_cases hj : j = s
    · subst hj; simp; omega
    · have : ¬ ((s : Int) = j) := by omega
      simp [hj, this]
theorem count_nodup {l : List Int} (h : l.Nodup) (x : Int) : (l.countP fun y => decide (y = x)) = if x ∈ l then 1 else 0 := by
  induction l with
  | nil => simp
  | cons a t ih =>
    rw [List.nodup_cons] at h
    rw [List.countP_cons, ih h.2]
    by_cases ha : a = x
    · subst ha
      simp [h.1]
    · have : ¬ x = a := fun e => ha e.symm
      simp [ha, this]

/-- The lengths, and the lengths by place. -/
structure OutRel (F o : List Int) (ls : List Nat) : Prop where
  len : o.length = F.length
  lsl : ls.length = (symsF F).length
  get : ∀ k (h : k < (symsF F).length), o.getD ((symsF F)[k]).toNat 0 = ls.getD k 0
  zero : ∀ j : Nat, (j : Int) ∉ symsF F → o.getD j 0 = 0
theorem out_start (F : List Int) : OutRel F (zerosF F.length) (List.replicate (symsF F).length 0) := by
  have hz : ∀ j, (zerosF F.length).getD j 0 = 0 := by
    intro j
    unfold zerosF
    rw [List.getD_eq_getElem?_getD, List.getElem?_replicate]
    split <;> rfl
  exact ⟨by simp [zerosF], by simp, fun k _ => by rw [hz, rep_zero]; rfl, fun j _ => hz j⟩
theorem nodup_idx {l : List Int} (h : l.Nodup) {i j : Nat} (hi : i < l.length) (hj : j < l.length) (e : l[i] = l[j]) : i = j := by
  rcases Nat.lt_trichotomy i j with h1 | h1 | h1
  · exact absurd e (List.pairwise_iff_getElem.1 h i j hi hj h1)
  · exact h1
  · exact absurd e.symm (List.pairwise_iff_getElem.1 h j i hj hi h1)
theorem out_bump {F o : List Int} {ls : List Nat} (h : OutRel F o ls) (c : Nat) : OutRel F (bumpF o ((symsF F).take c)) (addF c ls) := by
  have hin : ∀ x ∈ (symsF F).take c, ∃ s : Nat, x = s ∧ s < o.length := fun x hx => by
    obtain ⟨s, rfl, h1, _⟩ := (syms_mem F x).1 (List.mem_of_mem_take hx)
    exact ⟨s, rfl, by rw [h.len]; exact h1⟩
  have hnd : ((symsF F).take c).Nodup := (syms_nodup F).sublist (List.take_sublist _ _)
  refine ⟨by rw [bumpF_length, h.len], by rw [addF_length, h.lsl], fun k hk => ?_, fun j hj => ?_⟩
  · rw [bumpF_get _ _ _ hin, h.get k hk, addF_get, count_nodup hnd]
    have hpos : (((symsF F)[k]).toNat : Int) = (symsF F)[k] := by
      obtain ⟨s, e, _⟩ := (syms_mem F ((symsF F)[k])).1 (List.getElem_mem _)
      rw [e]; rfl
    rw [hpos]
    by_cases hc : k < c
    · have h1 : k < c ∧ k < ls.length := ⟨hc, by rw [h.lsl]; exact hk⟩
      have h2 : (symsF F)[k] ∈ (symsF F).take c := List.mem_take_iff_getElem.2 ⟨k, by omega, rfl⟩
      rw [if_pos h1, if_pos h2]
      simp
    · have h1 : ¬ (k < c ∧ k < ls.length) := fun hh => hc hh.1
      have h2 : ¬ (symsF F)[k] ∈ (symsF F).take c := by
        intro hm
        obtain ⟨j, hj, e⟩ := List.mem_take_iff_getElem.1 hm
        have := nodup_idx (syms_nodup F) (by omega) hk e
        omega
      rw [if_neg h1, if_neg h2]
      simp
  · rw [bumpF_get _ _ _ hin, h.zero j hj, count_nodup hnd, if_neg (fun hm => hj (List.mem_of_mem_take hm))]
    simp
theorem out_fold {F : List Int} (cs : List Nat) : ∀ {o : List Int} {ls : List Nat}, OutRel F o ls → OutRel F (outF (symsF F) cs o) (lensF cs ls) := by
  induction cs with
  | nil => intro o ls h; exact h
  | cons c cs ih => intro o ls h; exact ih (out_bump h c)

/-! ### weights and costs, over symbols -/
def wtF (x : Int) : Int := if 0 < x then 2 ^ (15 - x.toNat) else 0
theorem sum_range (l : List Int) (f : Int → Int) : sumF f l = sumF (fun j : Nat => f (l.getD j 0)) (List.range l.length) := by
  have e : l = (List.range l.length).map (fun j => l.getD j 0) := by
    refine List.ext_getElem (by simp) fun i h1 h2 => ?_
    simp [List.getD_eq_getElem?_getD, h1]
  conv => lhs; rw [e]
  rw [sumF_map]
theorem used_range (F : List Int) (k : Nat) : usedN F k = ((List.range k).filter fun s => decide (0 < F.getD s 0)).map Int.ofNat := by
  induction k with
  | zero => rfl
  | succ k ih =>
    rw [usedN, List.range_succ, List.filter_append, List.map_append, ← ih]
    split
    · next h => simp only [List.filter_cons, List.filter_nil, h, decide_true, if_true]; rfl
    · next h => simp only [List.filter_cons, List.filter_nil, h, decide_false]; simp
/-- A sum over all symbols is one over those in use, if nothing else counts. -/
theorem sum_syms (F : List Int) (f : Nat → Int) (h : ∀ j, j < F.length → ¬ 0 < F.getD j 0 → f j = 0) : sumF f (List.range F.length) = sumF (fun x : Int => f x.toNat) (symsF F) := by
  rw [← sumF_perm (syms_perm F)]
  unfold usedF
  rw [used_range, sumF_map, sumF_filter (fun s => decide (0 < F.getD s 0)) (List.range F.length)]
  have e : sumF f ((List.range F.length).filter fun x => !decide (0 < F.getD x 0)) = 0 := by
    rw [sumF_congr (g := fun _ => 0) (fun j hj => by
      have := List.mem_filter.1 hj
      exact h j (List.mem_range.1 this.1) (by simpa using this.2)), sumF_const]
    simp
  rw [e, Int.add_zero]
  exact sumF_congr fun x _ => by simp
def costF : List Int → List Int → Int
  | a :: F, b :: l => a * b + costF F l
  | _, _ => 0
theorem getD_self {ls : List Nat} : (List.range ls.length).map (fun k => ls.getD k 0) = ls := by
  refine List.ext_getElem (by simp) fun i h1 h2 => ?_
  simp [List.getD_eq_getElem?_getD, h2]
theorem sum_places {α : Type} (f : α → Int) (l : List α) (g : Nat → Int) (h : ∀ k (hk : k < l.length), f l[k] = g k) : sumF f l = sumF g (List.range l.length) := by
  induction l generalizing g with
  | nil => rfl
  | cons a t ih =>
    rw [List.length_cons, List.range_succ_eq_map, sumF_cons, sumF_cons, sumF_map, ih (fun k => g (k + 1)) (fun k hk => h (k + 1) (by simpa using hk))]
    have := h 0 (by simp)
    simp only [List.getElem_cons_zero] at this
    rw [this]

section
variable {F : List Int} {L : Nat} (hF : ∀ f ∈ F, 0 ≤ f) (hL : 1 ≤ L ∧ L ≤ 15) (hU : (symsF F).length ≤ 2 ^ L)
theorem getD_nonneg (hF : ∀ f ∈ F, 0 ≤ f) (j : Nat) : 0 ≤ F.getD j 0 := by
  rw [List.getD_eq_getElem?_getD]
  rcases Nat.lt_or_ge j F.length with h | h
  · rw [List.getElem?_eq_getElem h]; exact hF _ (List.getElem_mem _)
  · rw [List.getElem?_eq_none h]; exact Int.le_refl _
/-- By which lengths by place the lengths are. -/
theorem lengthsF_rel (F : List Int) (L : Nat) : OutRel F (lengthsF F L) (if (symsF F).length < 2 then addF (symsF F).length (List.replicate (symsF F).length 0) else lensF (cntF (baseF F) (L - 1) (2 * (baseF F).length - 2)) (List.replicate (baseF F).length 0)) := by
  unfold lengthsF
  split
  · have := out_bump (out_start F) (symsF F).length
    rwa [List.take_length] at this
  · rw [base_length]
    exact out_fold _ (out_start F)
theorem lengthsF_length (F : List Int) (L : Nat) : (lengthsF F L).length = F.length := (lengthsF_rel F L).len
theorem out_weight {o : List Int} {ls : List Nat} (h : OutRel F o ls) (h1 : ∀ k, k < ls.length → 1 ≤ ls.getD k 0) : sumF wtF o = kwF ls := by
  rw [sum_range, h.len, sum_syms F (fun j => wtF (o.getD j 0)) (fun j _ hj => by
    show wtF (o.getD j 0) = 0
    rw [h.zero j (fun hm => by
      obtain ⟨s, e, _, h2⟩ := (syms_mem F j).1 hm
      have : j = s := by omega
      subst this; exact hj h2)]; rfl)]
  unfold kwF
  rw [sum_places (fun x : Int => wtF (o.getD x.toNat 0)) (symsF F) (fun k => (2 : Int) ^ (15 - ls.getD k 0)) (fun k hk => ?_), ← h.lsl]
  · conv => rhs; rw [← getD_self (ls := ls), sumF_map]
  · rw [h.get k hk]
    have := h1 k (by rw [h.lsl]; exact hk)
    unfold wtF
    rw [if_pos (by omega)]
    simp
include hL hU
theorem places_ok {ls : List Nat} (hls : ls = if (symsF F).length < 2 then addF (symsF F).length (List.replicate (symsF F).length 0) else lensF (cntF (baseF F) (L - 1) (2 * (baseF F).length - 2)) (List.replicate (baseF F).length 0)) :
    ∀ k, k < (symsF F).length → 1 ≤ ls.getD k 0 ∧ ls.getD k 0 ≤ L := by
  intro k hk
  subst hls
  split
  · rw [addF_get, if_pos ⟨hk, by simpa using hk⟩, rep_zero]
    omega
  · next h =>
    have hw := whole (base_law F) L (by rw [base_length]; omega) hL (by rw [base_length]; exact hU)
    rw [base_length] at hw ⊢
    exact hw.2 k hk
/-- None above the limit; none but of what has frequency none. -/
theorem lengthsF_range (hF : ∀ f ∈ F, 0 ≤ f) (j : Nat) (hj : j < F.length) : 0 ≤ (lengthsF F L).getD j 0 ∧ (lengthsF F L).getD j 0 ≤ L ∧ ((lengthsF F L).getD j 0 = 0 ↔ F.getD j 0 = 0) := by
  obtain ⟨ls, hls⟩ : ∃ ls, ls = if (symsF F).length < 2 then addF (symsF F).length (List.replicate (symsF F).length 0) else lensF (cntF (baseF F) (L - 1) (2 * (baseF F).length - 2)) (List.replicate (baseF F).length 0) := ⟨_, rfl⟩
  have hr := lengthsF_rel F L
  rw [← hls] at hr
  have hp := places_ok (F := F) hL hU hls
  have h0 := getD_nonneg hF j
  by_cases hm : (j : Int) ∈ symsF F
  · obtain ⟨k, hk, e⟩ := List.getElem_of_mem hm
    have hg := hr.get k hk
    rw [e] at hg
    simp only [Int.toNat_natCast] at hg
    have h1 := hp k hk
    obtain ⟨s, e2, _, h2⟩ := (syms_mem F j).1 hm
    have : j = s := by omega
    subst this
    rw [hg]
    omega
  · rw [hr.zero j hm]
    have : ¬ 0 < F.getD j 0 := fun h => hm ((syms_mem F j).2 ⟨j, rfl, hj, h⟩)
    omega
/-- The weight. -/
theorem lengthsF_weight : sumF wtF (lengthsF F L) = if (symsF F).length < 2 then ((symsF F).length : Int) * 2 ^ 14 else 2 ^ 15 := by
  obtain ⟨ls, hls⟩ : ∃ ls, ls = if (symsF F).length < 2 then addF (symsF F).length (List.replicate (symsF F).length 0) else lensF (cntF (baseF F) (L - 1) (2 * (baseF F).length - 2)) (List.replicate (baseF F).length 0) := ⟨_, rfl⟩
  have hr := lengthsF_rel F L
  rw [← hls] at hr
  have hp := places_ok (F := F) hL hU hls
  rw [out_weight hr (fun k hk => (hp k (by rw [← hr.lsl]; exact hk)).1), hls]
  split
  · next h =>
    rw [kw_addF (t := 0) (by simp) (fun k _ => rep_zero _ _) (by omega)]
    have e : kwF (List.replicate (symsF F).length 0) = (symsF F).length * 2 ^ 15 := by
      unfold kwF
      rw [sumF_congr (g := fun _ => (2 : Int) ^ 15) (fun l hl => by rw [(List.mem_replicate.1 hl).2]), sumF_const, List.length_replicate]
    rw [e]
    omega
  · next h =>
    exact (whole (base_law F) L (by rw [base_length]; omega) hL (by rw [base_length]; exact hU)).1
end

/-! ### costs -/
end Go.Proofs.Ytljejkdkjnbmhaa
/- huff: plainly, what the walks tell (1). No program in sight. -/
namespace Go.Proofs.Ytljejkdkjnbmhaa
open Go.RowKit

theorem getD_get {F : List Int} {i : Nat} (h : i < F.length) : F[i]? = some (F.getD i 0) := by
  rw [List.getD_eq_getElem?_getD, List.getElem?_eq_getElem h]; rfl
theorem rd_len {w : World} {v : Value} {n : Nat} {F : List Int} (hr : Rd w 1 v n (nums F)) : F.length = n := by have := hr.len; rw [nums_length] at this; omega
def okLen (x : Int) : Bool := decide (0 ≤ x) && decide (x ≤ 15)
/-- May lengths be? -/
def mayF (l : List Int) : Bool := decide (l.length ≤ 320) && l.all okLen
theorem mayF_len {l : List Int} (h : mayF l = true) : l.length ≤ 320 ∧ ∀ x ∈ l, 0 ≤ x ∧ x ≤ 15 := by
  unfold mayF at h
  simp only [Bool.and_eq_true, decide_eq_true_eq, List.all_eq_true, okLen] at h
  exact ⟨h.1, fun x hx => h.2 x hx⟩
theorem all_take_succ {p : Int → Bool} {F : List Int} {i : Nat} (h : i < F.length) : (F.take (i + 1)).all p = ((F.take i).all p && p (F.getD i 0)) := by
  rw [List.take_add_one, getD_get h, List.all_append]
  simp
def badF (f : Int) : Bool := decide (f < 0 ∨ 4294967296 < f)
def anyBad (F : List Int) : Bool := F.any badF
theorem rd_num {w w' : World} {n : Nat} {F : List Int} {v : Value} {ps : List Piece} (hr : Rd w 1 v n (nums F)) (H : Own w w' ps) {i : Nat} (hi : i < F.length) {a : Option Addr} {c : Nat} (hv : v = .slice a n c) : ∃ b o, a = some ⟨b, o, none⟩ ∧ w'.cell? ⟨b, o + i, none⟩ = some (.int .i64 (F.getD i 0)) := by
  subst hv
  obtain ⟨b, o, c', he, _⟩ := hr.some (by rw [nums_length]; omega)
  cases he
  exact ⟨b, o, rfl, (hr.old H).cell (nums_get (by rw [List.getElem?_eq_getElem hi]; simp [List.getD_eq_getElem?_getD, hi]))⟩
/-- An int that is read. -/
theorem rd_at {w w' : World} {n : Nat} {F : List Int} {a : Option Addr} {c : Nat} {ps : List Piece} (hr : Rd w 1 (.slice a n c) n (nums F)) (H : Own w w' ps) {i : Nat} (hi : i < n) : ∃ b o, a = some ⟨b, o, none⟩ ∧ w'.cell? ⟨b, o + i, none⟩ = some (.int .i64 (F.getD i 0)) :=
  rd_num hr H (by have := hr.len; rw [nums_length] at this; omega) rfl
/-- Which error Lengths has; its lengths. -/
def badArg (F : List Int) (L : Int) : Bool := decide (L < 1) || decide (15 < L) || decide (320 < F.length) || anyBad F
def errF (F : List Int) (L : Int) : Int := if badArg F L then 1 else if 2 ^ L.toNat < (usedF F).length then 3 else 0
def resF (F : List Int) (L : Int) : List Int := if errF F L = 0 then lengthsF F L.toNat else []
/-- How many symbols have each length. -/
def countsF (l : List Int) : List Int := (bumpF (zerosF 16) l).set 0 0
theorem bump_bound (l : List Int) : ∀ (o : List Int) (j : Nat) (B : Int), (∀ j, 0 ≤ o.getD j 0 ∧ o.getD j 0 ≤ B) → 0 ≤ (bumpF o l).getD j 0 ∧ (bumpF o l).getD j 0 ≤ B + l.length := by
  induction l with
  | nil => intro o j B h; have := h j; simp [bumpF] at this ⊢; omega
  | cons x t ih =>
    intro o j B h
    have h2 : ∀ j, 0 ≤ (bump1 o x).getD j 0 ∧ (bump1 o x).getD j 0 ≤ B + 1 := by
      intro j
      unfold bump1
      have h1 := h j
      have h3 := h x.toNat
      rw [List.getD_eq_getElem?_getD, List.getElem?_set]
      rw [List.getD_eq_getElem?_getD] at h1
      split
      · split
        · simp; simp at h3; omega
        · simp; have := h 0; omega
      · omega
    have := ih (bump1 o x) j (B + 1) h2
    show 0 ≤ (bumpF (bump1 o x) t).getD j 0 ∧ (bumpF (bump1 o x) t).getD j 0 ≤ _
    rw [List.length_cons]
    omega
theorem zeros_get (n j : Nat) : (zerosF n).getD j 0 = 0 := by
  unfold zerosF
  rw [List.getD_eq_getElem?_getD, List.getElem?_replicate]
  split <;> rfl
/-- How many codes are left, of these counts. -/
def leftL : Int → List Int → Int
  | n, [] => n
  | n, k :: t => if 2 * n - k < 0 then -1 else leftL (2 * n - k) t
def leftF (cs : List Int) : Int := leftL 1 (cs.drop 1)
theorem nums_set (o : List Int) (s : Nat) (x : Int) : (nums o).set s (.int .i64 x) = nums (o.set s x) := by simp [nums, List.map_set]
theorem bump_take {o syms : List Int} {j : Nat} {x : Int} (hx : syms[j]? = some x) : bumpF o (syms.take (j + 1)) = bump1 (bumpF o (syms.take j)) x := by
  unfold bumpF
  rw [List.take_add_one, hx, List.foldl_append]
  rfl
theorem arr_set (cs : List Int) (k : Nat) (v : Int) : (nums cs).toArray.setIfInBounds k (.int .i64 v) = (nums (cs.set k v)).toArray := by
  rw [List.setIfInBounds_toArray, nums_set]
theorem arr_get {cs : List Int} {k : Nat} (h : k < cs.length) : (nums cs).toArray[k]? = some (.int .i64 (cs.getD k 0)) := by
  rw [List.getElem?_toArray]
  exact nums_get (getD_get h)
theorem arr_zero : (nums (zerosF 16)).toArray = #[.int .i64 0, .int .i64 0, .int .i64 0, .int .i64 0, .int .i64 0, .int .i64 0, .int .i64 0, .int .i64 0, .int .i64 0, .int .i64 0, .int .i64 0, .int .i64 0, .int .i64 0, .int .i64 0, .int .i64 0, .int .i64 0] := rfl
theorem nums_one (cs : List Int) : ∀ u ∈ nums cs, u.oneCell' = true := by
  intro u hu
  obtain ⟨x, _, rfl⟩ := List.mem_map.1 hu
  rfl
theorem store_whole (a b : List Value) (h : b.length = a.length) : (a.toArray.toList.take 0 ++ b ++ a.toArray.toList.drop (0 + b.length)).toArray = b.toArray := by
  simp [h]
/-- Which error Codes has; its codes. -/
def cerrF (l : List Int) : Int := if mayF l then (if sumF wtF l ≤ 2 ^ 15 then 0 else 2) else 1
theorem pow_pos_nat (d : Nat) (h : d ≤ 15) : ∃ p : Int, (2 : Int) ^ d = p ∧ 1 ≤ p ∧ p ≤ 32768 := by
  refine ⟨_, rfl, ?_, ?_⟩
  · have : (0 : Int) < 2 ^ d := Int.pow_pos (by omega)
    omega
  · have : (2 : Nat) ^ d ≤ 2 ^ 15 := Nat.pow_le_pow_right (by omega) h
    have h2 : ((2 ^ d : Nat) : Int) ≤ ((2 ^ 15 : Nat) : Int) := Int.ofNat_le.2 this
    simpa using h2
end Go.Proofs.Ytljejkdkjnbmhaa
/- huff: canonical codes, plainly. No program in sight. -/
namespace Go.Proofs.Ytljejkdkjnbmhaa

/-- How many lengths are k. -/
def cntL (l : List Int) (k : Nat) : Nat := l.countP fun x => decide (x = (k : Int))
/-- The first code of a length. -/
def lowT (n : Nat) (x : Int) : Int := if 0 < x ∧ x < n then 2 ^ (n - x.toNat) else 0
def lowF (l : List Int) (n : Nat) : Int := sumF (lowT n) l
/-- As the counts have it: none of length 0. -/
def cntC (l : List Int) (k : Nat) : Int := if k = 0 then 0 else cntL l k
/-- A symbol's code. -/
def codeF (l : List Int) (s : Nat) : Int := if 0 < l.getD s 0 then lowF l (l.getD s 0).toNat + cntL (l.take s) (l.getD s 0).toNat else 0
def codesF (l : List Int) : List Int := (List.range l.length).map (codeF l)
theorem codesF_length (l : List Int) : (codesF l).length = l.length := by simp [codesF]
theorem codesF_get {l : List Int} {s : Nat} (h : s < l.length) : (codesF l).getD s 0 = codeF l s := by
  unfold codesF
  rw [List.getD_eq_getElem?_getD]
  simp [h]

section
variable {l : List Int}
theorem cntL_take_succ {k s : Nat} (h : s < l.length) : cntL (l.take (s + 1)) k = cntL (l.take s) k + if l.getD s 0 = (k : Int) then 1 else 0 := by
  unfold cntL
  rw [List.take_add_one, getD_get h, List.countP_append]
  simp
theorem cntL_le (l : List Int) (k : Nat) : cntL l k ≤ l.length := List.countP_le_length
theorem cntL_take_le (l : List Int) (s k : Nat) : cntL (l.take s) k ≤ cntL l k := (List.take_sublist s l).countP_le
theorem lowT_nonneg (n : Nat) (x : Int) : 0 ≤ lowT n x := by
  unfold lowT
  split
  · exact Int.le_of_lt (Int.pow_pos (by omega))
  · exact Int.le_refl _
theorem lowF_nonneg (l : List Int) (n : Nat) : 0 ≤ lowF l n := sumF_nonneg fun x _ => lowT_nonneg n x
theorem lowF_zero (l : List Int) : lowF l 0 = 0 := by
  unfold lowF
  rw [sumF_congr (g := fun _ => 0) (fun x _ => by unfold lowT; rw [if_neg]; rintro ⟨h1, h2⟩; have : x < 0 := h2; omega), sumF_const]
  simp
theorem lowF_succ (l : List Int) (n : Nat) : lowF l (n + 1) = 2 * (lowF l n + cntC l n) := by
  have key : ∀ x : Int, lowT (n + 1) x = 2 * (lowT n x + if x = (n : Int) ∧ n ≠ 0 then 1 else 0) := by
    intro x
    unfold lowT
    by_cases h1 : 0 < x ∧ x < n
    · rw [if_pos h1, if_pos ⟨h1.1, by omega⟩, if_neg (by omega), show n + 1 - x.toNat = (n - x.toNat) + 1 by omega, Int.pow_succ]
      omega
    · rw [if_neg h1]
      by_cases h2 : x = (n : Int) ∧ n ≠ 0
      · rw [if_pos h2, if_pos ⟨by omega, by omega⟩]
        have : n + 1 - x.toNat = 1 := by omega
        rw [this]
        rfl
      · rw [if_neg h2, if_neg (by omega)]
        rfl
  unfold lowF
  rw [sumF_congr (fun x _ => key x)]
  clear key
  have h2 : ∀ l : List Int, sumF (fun x => 2 * (lowT n x + if x = (n : Int) ∧ n ≠ 0 then 1 else 0)) l = 2 * (sumF (lowT n) l + cntC l n) := by
    intro l
    induction l with
    | nil => simp [sumF, cntC, cntL]
    | cons x t ih =>
      rw [sumF_cons, ih, sumF_cons]
      unfold cntC cntL
      rw [List.countP_cons]
      by_cases hn : n = 0
      · simp [hn]; omega
      · by_cases hx : x = (n : Int)
        · simp [hn, hx]; omega
        · simp [hn, hx]; omega
  exact h2 l
theorem low_weight (hl : ∀ x ∈ l, 0 ≤ x ∧ x ≤ 15) : lowF l 15 + cntC l 15 = sumF wtF l := by
  have h := lowF_succ l 15
  have key : lowF l 16 = 2 * sumF wtF l := by
    unfold lowF
    clear h
    induction l with
    | nil => rfl
    | cons x t ih =>
      rw [sumF_cons, sumF_cons, ih fun y hy => hl y (by simp [hy])]
      have := hl x (by simp)
      have e : lowT 16 x = 2 * wtF x := by
        unfold lowT wtF
        by_cases hx : 0 < x
        · rw [if_pos ⟨hx, by omega⟩, if_pos hx, show 16 - x.toNat = (15 - x.toNat) + 1 by omega, Int.pow_succ]
          omega
        · rw [if_neg (by omega), if_neg hx]; rfl
      rw [e]
      omega
  have e : lowF l (15 + 1) = lowF l 16 := rfl
  rw [e, key] at h
  omega
theorem cntC_nonneg (l : List Int) (k : Nat) : 0 ≤ cntC l k := by unfold cntC; split <;> omega
/-- What a level takes, further on. -/
theorem low_far (l : List Int) (n : Nat) : ∀ d, 2 ^ (d + 1) * (lowF l n + cntC l n) ≤ lowF l (n + 1 + d) := by
  intro d
  induction d with
  | zero => rw [Nat.add_zero, lowF_succ]; simp
  | succ d ih =>
    rw [← Nat.add_assoc, lowF_succ, Int.pow_succ]
    have := cntC_nonneg l (n + 1 + d)
    have e : (2 : Int) ^ (d + 1) * 2 * (lowF l n + cntC l n) = 2 * (2 ^ (d + 1) * (lowF l n + cntC l n)) := by
      rw [Int.mul_comm (2 ^ (d + 1)) 2, Int.mul_assoc]
    rw [e]
    omega
/-- What is not too great is so on each level. -/
theorem low_room (hl : ∀ x ∈ l, 0 ≤ x ∧ x ≤ 15) (hw : sumF wtF l ≤ 2 ^ 15) (n : Nat) (hn : n ≤ 15) : lowF l n + cntC l n ≤ 2 ^ n := by
  rw [← low_weight hl] at hw
  rcases Nat.lt_or_ge n 15 with h | h
  · have h1 := low_far l n (14 - n)
    have e : n + 1 + (14 - n) = 15 := by omega
    rw [e] at h1
    have h2 := cntC_nonneg l 15
    have h3 : (2 : Int) ^ (14 - n + 1) * (lowF l n + cntC l n) ≤ 2 ^ (14 - n + 1) * 2 ^ n := by
      rw [← Int.pow_add, show 14 - n + 1 + n = 15 by omega]
      omega
    exact Int.le_of_mul_le_mul_left h3 (Int.pow_pos (by omega))
  · have : n = 15 := by omega
    subst this
    exact hw
theorem counts_get (hl : ∀ x ∈ l, 0 ≤ x ∧ x ≤ 15) (k : Nat) (hk : k < 16) : (countsF l).getD k 0 = cntC l k := by
  have hb : (bumpF (zerosF 16) l).length = 16 := by rw [bumpF_length]; simp [zerosF]
  unfold countsF cntC
  rw [List.getD_eq_getElem?_getD, List.getElem?_set]
  by_cases h0 : k = 0
  · subst h0
    rw [if_pos rfl, if_pos rfl, if_pos (by omega)]
    rfl
  · rw [if_neg (fun e => h0 e.symm), if_neg h0, ← List.getD_eq_getElem?_getD, bumpF_get _ _ _ (fun x hx => ⟨x.toNat, by have := hl x hx; omega, by have := hl x hx; simp [zerosF]; omega⟩), zeros_get]
    unfold cntL
    omega
theorem counts_length (l : List Int) : (countsF l).length = 16 := by unfold countsF; rw [List.length_set, bumpF_length]; simp [zerosF]
theorem left_step (l : List Int) (hl : ∀ x ∈ l, 0 ≤ x ∧ x ≤ 15) : ∀ m j, j + m = 15 → lowF l j + cntC l j ≤ 2 ^ j →
    leftL (2 ^ j - (lowF l j + cntC l j)) ((countsF l).drop (1 + j)) = if sumF wtF l ≤ 2 ^ 15 then 2 ^ 15 - sumF wtF l else -1 := by
  intro m
  induction m with
  | zero =>
    intro j hj hle
    have : j = 15 := by omega
    subst this
    rw [List.drop_eq_nil_of_le (by rw [counts_length]; omega), leftL]
    rw [low_weight hl] at hle ⊢
    rw [if_pos hle]
  | succ m ih =>
    intro j hj hle
    have hd : (countsF l).drop (1 + j) = (countsF l).getD (1 + j) 0 :: (countsF l).drop (1 + (j + 1)) := by
      have := counts_length l
      rw [List.drop_eq_getElem_cons (by omega), List.getD_eq_getElem?_getD, List.getElem?_eq_getElem (by omega)]
      rfl
    rw [hd, leftL, counts_get hl _ (by omega)]
    have e : 2 * (2 ^ j - (lowF l j + cntC l j)) - cntC l (1 + j) = 2 ^ (j + 1) - (lowF l (j + 1) + cntC l (j + 1)) := by
      rw [lowF_succ, Int.pow_succ, Nat.add_comm 1 j]
      omega
    rw [e]
    by_cases hneg : 2 ^ (j + 1) - (lowF l (j + 1) + cntC l (j + 1)) < 0
    · rw [if_pos hneg, if_neg]
      intro hw
      have := low_room hl hw (j + 1) (by omega)
      omega
    · rw [if_neg hneg]
      exact ih (j + 1) (by omega) (by omega)
theorem left_law (hl : ∀ x ∈ l, 0 ≤ x ∧ x ≤ 15) : leftF (countsF l) = if sumF wtF l ≤ 2 ^ 15 then 2 ^ 15 - sumF wtF l else -1 := by
  have := left_step l hl 15 0 rfl (by rw [lowF_zero]; simp [cntC])
  rw [lowF_zero] at this
  exact this

/-! ### codes -/
theorem code_lt {s : Nat} (hs : s < l.length) (h0 : 0 < l.getD s 0) : codeF l s + 1 ≤ lowF l (l.getD s 0).toNat + cntC l (l.getD s 0).toNat := by
  unfold codeF cntC
  rw [if_pos h0, if_neg (by omega)]
  have h1 := cntL_take_succ (k := (l.getD s 0).toNat) hs
  rw [if_pos (by omega)] at h1
  have h2 := cntL_take_le l (s + 1) (l.getD s 0).toNat
  omega
theorem code_nonneg (s : Nat) : 0 ≤ codeF l s := by
  unfold codeF
  split
  · have := lowF_nonneg l (l.getD s 0).toNat; omega
  · omega
/-- Each code goes into its length. -/
theorem code_fits (hl : ∀ x ∈ l, 0 ≤ x ∧ x ≤ 15) (hw : sumF wtF l ≤ 2 ^ 15) {s : Nat} (hs : s < l.length) (h0 : 0 < l.getD s 0) : codeF l s < 2 ^ (l.getD s 0).toNat := by
  have h1 := code_lt hs h0
  have hm : l.getD s 0 ∈ l := by rw [List.getD_eq_getElem?_getD, List.getElem?_eq_getElem hs]; exact List.getElem_mem _
  have h2 := low_room hl hw (l.getD s 0).toNat (by have := hl _ hm; omega)
  omega
/-! ### the document's sum -/
/-- What stands ahead of a symbol, of the first k, in parts of 2^15. -/
def befT (l : List Int) (s t : Nat) : Int := if 0 < l.getD t 0 ∧ (l.getD t 0 < l.getD s 0 ∨ l.getD t 0 = l.getD s 0 ∧ t < s) then 2 ^ (15 - (l.getD t 0).toNat) else 0
def befN (l : List Int) (s : Nat) : Nat → Int
  | 0 => 0
  | k + 1 => befN l s k + befT l s k
end
end Go.Proofs.Ytljejkdkjnbmhaa
