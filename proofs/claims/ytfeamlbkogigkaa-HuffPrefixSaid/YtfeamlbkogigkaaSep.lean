/-
  Memory that a call owns, piece by piece: 'Own w0 w ps': the world w is w0 with new blocks, and the pieces ps lie in disjoint blocks of its own. Laws on allocs, stores, appends. No program in sight.
-/
import Derived.WalkKit
import Derived.Lib.Hide
import Derived.Deep.Draws
namespace Go.Proofs.Ytfeamlbkogigkaa
open Go.RowKit

abbrev Heaplet := List (Nat × Obj)
abbrev Piece := Heaplet → Prop

def Holds (B : Nat) (w : World) : List Piece → List Nat → Prop
  | [], _ => True
  | p :: ps, u => ∃ h : Heaplet, p h ∧ (h.map (·.1)).Nodup ∧ (∀ x ∈ h, x.1 ∉ u ∧ B ≤ x.1 ∧ w.heap[x.1]? = some x.2) ∧ Holds B w ps (h.map (·.1) ++ u)

theorem front_perm {α : Type _} : ∀ (l : List α) (i : Nat) (a : α), l[i]? = some a → l.Perm (a :: l.eraseIdx i)
  | [], _, _, h => by simp at h
  | x :: l, 0, a, h => by simp at h; subst h; exact List.Perm.refl _
  | x :: l, i + 1, a, h => ((front_perm l i a (by simpa using h)).cons x).trans (List.Perm.swap _ _ _)

structure Own (w0 w : World) (ps : List Piece) : Prop where
  below : Below w0.heap.size w0 w
  holds : Holds w0.heap.size w ps []

theorem Holds.anti {B : Nat} {w : World} {ps : List Piece} : ∀ {u u' : List Nat}, Holds B w ps u → (∀ x, x ∈ u' → x ∈ u) → Holds B w ps u' := by
  induction ps with
  | nil => intro _ _ _ _; trivial
  | cons p ps ih =>
    intro u u' ⟨h, hp, hn, hx, hr⟩ hu
    refine ⟨h, hp, hn, fun x hxm => ⟨fun hm => (hx x hxm).1 (hu _ hm), (hx x hxm).2⟩, ih hr ?_⟩
    intro x hxm
    rcases List.mem_append.1 hxm with h1 | h1
    · exact List.mem_append.2 (.inl h1)
    · exact List.mem_append.2 (.inr (hu _ h1))

theorem Holds.perm {B : Nat} {w : World} {ps qs : List Piece} (hp : ps.Perm qs) : ∀ {u : List Nat}, Holds B w ps u → Holds B w qs u := by
  induction hp with
  | nil => intro _ h; exact h
  | cons p _ ih => intro u ⟨h, h1, h2, h3, h4⟩; exact ⟨h, h1, h2, h3, ih h4⟩
  | swap p q ps =>
    intro u ⟨h, h1, h2, h3, g, g1, g2, g3, g4⟩
    refine ⟨g, g1, g2, fun x hx => ⟨fun hm => (g3 x hx).1 (List.mem_append.2 (.inr hm)), (g3 x hx).2⟩, h, h1, h2, fun x hx => ⟨fun hm => ?_, (h3 x hx).2⟩, ?_⟩
    · rcases List.mem_append.1 hm with hm | hm
      · obtain ⟨y, hy, hye⟩ := List.mem_map.1 hm
        exact (g3 y hy).1 (List.mem_append.2 (.inl (by rw [hye]; exact List.mem_map.2 ⟨x, hx, rfl⟩)))
      · exact (h3 x hx).1 hm
    · refine Holds.anti g4 ?_
      intro x hx
      simp only [List.mem_append] at hx ⊢
      rcases hx with h | h | h
      · exact .inr (.inl h)
      · exact .inl h
      · exact .inr (.inr h)
  | trans _ _ ih1 ih2 => intro u h; exact ih2 (ih1 h)

/-- Worlds that agree on the blocks in use. -/
theorem Holds.carry {B : Nat} {w w' : World} {ps : List Piece} : ∀ {u : List Nat}, Holds B w ps u → (∀ k, B ≤ k → k ∉ u → k < w.heap.size → w'.heap[k]? = w.heap[k]?) → Holds B w' ps u := by
  induction ps with
  | nil => intro _ _ _; trivial
  | cons p ps ih =>
    intro u ⟨h, h1, h2, h3, h4⟩ hk
    refine ⟨h, h1, h2, fun x hx => ⟨(h3 x hx).1, (h3 x hx).2.1, ?_⟩, ih h4 fun k hB hku hlt => hk k hB (fun hm => hku (List.mem_append.2 (.inr hm))) hlt⟩
    rw [hk x.1 (h3 x hx).2.1 (h3 x hx).1 (Array.getElem?_eq_some_iff.1 (h3 x hx).2.2).1]
    exact (h3 x hx).2.2

theorem Holds.use {B : Nat} {w : World} {ps : List Piece} : ∀ {u u' : List Nat}, Holds B w ps u → (∀ k, k ∈ u' → k ∈ u ∨ w.heap.size ≤ k) → Holds B w ps u' := by
  induction ps with
  | nil => intro _ _ _ _; trivial
  | cons p ps ih =>
    intro u u' ⟨h, h1, h2, h3, h4⟩ hk
    refine ⟨h, h1, h2, fun x hx => ⟨fun hm => ?_, (h3 x hx).2⟩, ih h4 fun k hm => ?_⟩
    · rcases hk _ hm with h | h
      · exact (h3 x hx).1 h
      · have := (Array.getElem?_eq_some_iff.1 (h3 x hx).2.2).1; omega
    · rcases List.mem_append.1 hm with hm | hm
      · exact .inl (List.mem_append.2 (.inl hm))
      · rcases hk _ hm with h | h
        · exact .inl (List.mem_append.2 (.inr h))
        · exact .inr h

section
variable {w0 w w' : World} {p q : Piece} {ps qs : List Piece}

theorem Own.start (w : World) : Own w w [] := ⟨Below.refl _ _, trivial⟩
theorem Own.perm (h : Own w0 w ps) (hp : ps.Perm qs) : Own w0 w qs := ⟨h.below, h.holds.perm hp⟩
theorem Own.drop (h : Own w0 w (p :: ps)) : Own w0 w ps := by
  obtain ⟨hb, g, _, _, _, hr⟩ := h
  exact ⟨hb, hr.anti (by simp)⟩
theorem Own.swap (h : Own w0 w (p :: q :: ps)) : Own w0 w (q :: p :: ps) := h.perm (List.Perm.swap q p ps)
theorem Own.imp (h : Own w0 w (p :: ps)) (hpq : ∀ x, p x → q x) : Own w0 w (q :: ps) := by
  obtain ⟨hb, g, h1, h2⟩ := h
  exact ⟨hb, g, hpq _ h1, h2⟩
theorem Own.front (i : Nat) (h : Own w0 w ps) (hi : ps[i]? = some p) : Own w0 w (p :: ps.eraseIdx i) := h.perm (front_perm ps i p hi)
theorem Own.size (h : Own w0 w ps) : w0.heap.size ≤ w.heap.size := h.below.size
theorem Own.old (h : Own w0 w ps) {k : Nat} (hk : k < w0.heap.size) : w.heap[k]? = w0.heap[k]? := h.below.block k hk
theorem Own.oldCell (h : Own w0 w ps) {a : Addr} (hk : a.block < w0.heap.size) : w.cell? a = w0.cell? a := h.below.cell hk
theorem Own.drew (h : Own w0 w ps) : Own w0 w.drew ps := ⟨h.below.drew, h.holds.carry fun _ _ _ _ => rfl⟩
theorem Own.drewN (h : Own w0 w ps) (n : Nat) : Own w0 (w.drewN n) ps := ⟨h.below.trans ⟨rfl, rfl, rfl, Nat.le_refl _, fun _ _ => rfl⟩, h.holds.carry fun _ _ _ _ => rfl⟩
/-- What only makes new blocks. -/
theorem Own.mono (h : Own w0 w ps) (hb : Below w.heap.size w w') : Own w0 w' ps :=
  ⟨h.below.trans (hb.mono h.size), h.holds.carry fun k _ _ hlt => hb.block k hlt⟩
/-- What a callee owns of its own, called on a world where we own ps. -/
theorem Own.join (h : Own w0 w ps) (g : Own w w' qs) : Own w0 w' (qs ++ ps) := by
  refine ⟨h.below.trans (g.below.mono h.size), ?_⟩
  have key : ∀ (qs : List Piece) (u : List Nat), (∀ k, k ∈ u → w.heap.size ≤ k) → Holds w.heap.size w' qs u → Holds w0.heap.size w' (qs ++ ps) u := by
    intro qs
    induction qs with
    | nil =>
      intro u hu _
      refine Holds.carry (w := w) ?_ (fun k _ _ hlt => g.below.block k hlt)
      exact h.holds.use (fun k hk => .inr (hu k hk))
    | cons q qs ih =>
      intro u hu ⟨x, h1, h2, h3, h4⟩
      refine ⟨x, h1, h2, fun y hy => ⟨(h3 y hy).1, Nat.le_trans h.size (h3 y hy).2.1, (h3 y hy).2.2⟩, ih _ ?_ h4⟩
      intro k hk
      rcases List.mem_append.1 hk with hk | hk
      · obtain ⟨y, hy, rfl⟩ := List.mem_map.1 hk
        exact (h3 y hy).2.1
      · exact hu k hk
  exact key qs [] (by simp) g.holds
end

/-! ### pieces -/
def blk (b : Nat) (o : Obj) : Piece := fun h => h = [(b, o)]
def star (p q : Piece) : Piece := fun h => ∃ a b, h = a ++ b ∧ p a ∧ q b
def ex {α : Type} (f : α → Piece) : Piece := fun h => ∃ a, f a h
def fact (φ : Prop) : Piece := fun h => h = [] ∧ φ
/-- A slice that begins at the head of a row of its own: n elements of 'size' cells, the cells xs; or nil. -/
def slc (e : TypeId) (size : Nat) (v : Value) (n : Nat) (xs : List Value) : Piece := fun h =>
  xs.length = n * size ∧ ((v = .slice none 0 0 ∧ n = 0 ∧ h = []) ∨
    ∃ g cap cur, v = .slice (some ⟨g, 0, none⟩) n cap ∧ h = [(g, .cells cur e (0, 0))] ∧ n ≤ cap ∧ cap ≤ maxLen ∧ cur.size = cap * size ∧ cur.toList.take (n * size) = xs)

section
variable {w0 w w' : World} {p q : Piece} {ps qs : List Piece}

theorem Own.star (h : Own w0 w (star p q :: ps)) : Own w0 w (p :: q :: ps) := by
  obtain ⟨hb, x, ⟨a, b, rfl, ha, hq⟩, hn, hx, hr⟩ := h
  rw [List.map_append, List.nodup_append] at hn
  refine ⟨hb, a, ha, hn.1, fun y hy => hx y (List.mem_append.2 (.inl hy)), b, hq, hn.2.1, fun y hy => ⟨fun hm => ?_, (hx y (List.mem_append.2 (.inr hy))).2⟩, ?_⟩
  · have hm : y.1 ∈ a.map (·.1) := by simpa using hm
    exact hn.2.2 y.1 hm y.1 (List.mem_map.2 ⟨y, hy, rfl⟩) rfl
  · refine hr.anti ?_
    intro k hk
    simp only [List.map_append, List.mem_append] at hk ⊢
    rcases hk with h | h | h
    · exact .inl (.inr h)
    · exact .inl (.inl h)
    · exact .inr h
theorem Own.unstar (h : Own w0 w (p :: q :: ps)) : Own w0 w (Go.Proofs.Ytfeamlbkogigkaa.star p q :: ps) := by
  obtain ⟨hb, a, ha, hn, hx, b, hq, hn2, hx2, hr⟩ := h
  refine ⟨hb, a ++ b, ⟨a, b, rfl, ha, hq⟩, ?_, fun y hy => ?_, ?_⟩
  · rw [List.map_append, List.nodup_append]
    refine ⟨hn, hn2, fun k hk k' hk' e => ?_⟩
    subst e
    obtain ⟨y, hy, rfl⟩ := List.mem_map.1 hk'
    exact (hx2 y hy).1 (by simpa using hk)
  · rcases List.mem_append.1 hy with hy | hy
    · exact hx y hy
    · exact ⟨by simp, (hx2 y hy).2⟩
  · refine hr.anti ?_
    intro k hk
    simp only [List.map_append, List.mem_append] at hk ⊢
    rcases hk with (h | h) | h
    · exact .inr (.inl h)
    · exact .inl h
    · exact .inr (.inr h)
theorem Own.ex {α : Type} {f : α → Piece} (h : Own w0 w (ex f :: ps)) : ∃ a, Own w0 w (f a :: ps) := by
  obtain ⟨hb, x, ⟨a, ha⟩, r⟩ := h
  exact ⟨a, hb, x, ha, r⟩
theorem Own.unex {α : Type} {f : α → Piece} (a : α) (h : Own w0 w (f a :: ps)) : Own w0 w (Go.Proofs.Ytfeamlbkogigkaa.ex f :: ps) :=
  h.imp fun _ hx => ⟨a, hx⟩
theorem Own.fact {φ : Prop} (h : Own w0 w (fact φ :: ps)) : φ ∧ Own w0 w ps := by
  have := h.drop
  obtain ⟨hb, x, ⟨_, hφ⟩, _⟩ := h
  exact ⟨hφ, this⟩
theorem Own.unfact {φ : Prop} (hφ : φ) (h : Own w0 w ps) : Own w0 w (Go.Proofs.Ytfeamlbkogigkaa.fact φ :: ps) :=
  ⟨h.below, [], ⟨rfl, hφ⟩, by simp, by simp, by simpa using h.holds⟩

/-- A new block. -/
theorem Own.alloc (h : Own w0 w ps) (o : Obj) : Own w0 (w.alloc o) (blk w.heap.size o :: ps) := by
  refine ⟨h.below.alloc h.size o, [(w.heap.size, o)], rfl, by simp, ?_, ?_⟩
  · intro x hx
    simp only [List.mem_singleton] at hx
    subst hx
    exact ⟨by simp, h.size, heap_alloc_new w o⟩
  · refine (h.holds.use (u' := [w.heap.size]) ?_).carry fun k _ _ hlt => Below.heap_alloc w o k hlt
    intro k hk
    simp only [List.mem_singleton] at hk
    exact .inr (by omega)
/-- A new block that nobody keeps. -/
theorem Own.alloc' (h : Own w0 w ps) (o : Obj) : Own w0 (w.alloc o) ps := (h.alloc o).drop

/-- Two new blocks. -/
theorem Own.alloc2 (h : Own w0 w ps) (o o' : Obj) : Own w0 ((w.alloc o).alloc o') (blk (w.heap.size + 1) o' :: blk w.heap.size o :: ps) := by
  have := (h.alloc o).alloc o'
  simpa using this

theorem Own.alloc3 (h : Own w0 w ps) (o o' o'' : Obj) : Own w0 (((w.alloc o).alloc o').alloc o'') (blk (w.heap.size + 1 + 1) o'' :: blk (w.heap.size + 1) o' :: blk w.heap.size o :: ps) := by
  have := ((h.alloc o).alloc o').alloc o''
  simpa using this
theorem Own.alloc4 (h : Own w0 w ps) (o o' o'' o3 : Obj) : Own w0 ((((w.alloc o).alloc o').alloc o'').alloc o3) (blk (w.heap.size + 1 + 1 + 1) o3 :: blk (w.heap.size + 1 + 1) o'' :: blk (w.heap.size + 1) o' :: blk w.heap.size o :: ps) := by
  have := (((h.alloc o).alloc o').alloc o'').alloc o3
  simpa using this

theorem Own.block {b : Nat} {o : Obj} (h : Own w0 w (blk b o :: ps)) : w.heap[b]? = some o ∧ w0.heap.size ≤ b := by
  obtain ⟨_, x, rfl, _, hx, _⟩ := h
  have := hx (b, o) (by simp)
  exact ⟨this.2.2, this.2.1⟩
theorem cell_of_block {b : Nat} {cur : Array Value} {e : TypeId} {fr : Nat × Nat} (h : w.heap[b]? = some (.cells cur e fr)) (i : Nat) : w.cell? ⟨b, i, none⟩ = cur[i]? := by
  simp [World.cell?, h]
theorem frozen_of_block {b : Nat} {cur : Array Value} {e : TypeId} (h : w.heap[b]? = some (.cells cur e (0, 0))) (i : Nat) : w.frozen? ⟨b, i, none⟩ = false := by
  simp [World.frozen?, h]
theorem Own.cell {b : Nat} {cur : Array Value} {e : TypeId} {fr : Nat × Nat} (h : Own w0 w (blk b (.cells cur e fr) :: ps)) (i : Nat) : w.cell? ⟨b, i, none⟩ = cur[i]? :=
  cell_of_block h.block.1 i
theorem Own.cells {b : Nat} {cur : Array Value} {e : TypeId} {fr : Nat × Nat} (h : Own w0 w (blk b (.cells cur e fr) :: ps)) : ∀ i, w.cell? ⟨b, i, none⟩ = cur[i]? := h.cell
theorem Own.free {b : Nat} {cur : Array Value} {e : TypeId} (h : Own w0 w (blk b (.cells cur e) :: ps)) (i : Nat) : w.frozen? ⟨b, i, none⟩ = false :=
  frozen_of_block h.block.1 i

theorem heap_setCell_at {b : Nat} {cur : Array Value} {e : TypeId} {fr : Nat × Nat} (h : w.heap[b]? = some (.cells cur e fr)) (i : Nat) (x : Value) :
    (w.setCell ⟨b, i, none⟩ x).heap[b]? = some (.cells (cur.setIfInBounds i x) e fr) := by
  simp [World.setCell, Array.getElem?_modify, h]

/-- Whatever turns just the block of the first piece (which is one block), and lays new ones. -/
theorem Own.turn {b : Nat} {o o' : Obj} (h : Own w0 w (blk b o :: ps)) (hos : w'.os = w.os) (htape : w'.tape = w.tape) (hout : w'.output = w.output) (hsize : w.heap.size ≤ w'.heap.size)
    (hb : w'.heap[b]? = some o') (hk : ∀ k, k < w.heap.size → k ≠ b → w'.heap[k]? = w.heap[k]?) : Own w0 w' (blk b o' :: ps) := by
  have hB := h.block.2
  obtain ⟨hbel, x, rfl, hn, hx, hr⟩ := h
  refine ⟨hbel.trans ⟨hos, htape, hout, hsize, fun k hlt => hk k (by have := hbel.size; omega) (by omega)⟩, [(b, o')], rfl, by simp, ?_, ?_⟩
  · intro y hy
    simp only [List.mem_singleton] at hy
    subst hy
    exact ⟨by simp, hB, hb⟩
  · refine Holds.carry (w := w) hr ?_
    intro k _ hnk hlt
    exact hk k hlt (fun e => hnk (by simp [e]))

/-- A store into a block. -/
theorem Own.set {b : Nat} {cur : Array Value} {e : TypeId} {fr : Nat × Nat} (h : Own w0 w (blk b (.cells cur e fr) :: ps)) (i : Nat) (x : Value) :
    Own w0 (w.setCell ⟨b, i, none⟩ x) (blk b (.cells (cur.setIfInBounds i x) e fr) :: ps) :=
  h.turn rfl rfl rfl (by simp) (heap_setCell_at h.block.1 i x) fun k _ hk => Below.heap_setCell _ _ _ _ hk

/-- A store into a block of the call's own, when no piece is kept. -/
theorem Own.poke (h : Own w0 w []) {a : Addr} (ha : w0.heap.size ≤ a.block) (x : Value) : Own w0 (w.setCell a x) [] := ⟨h.below.setCell ha x, trivial⟩
theorem Own.bare (h : Own w0 w ps) : Own w0 w [] := ⟨h.below, trivial⟩

/-! ### slices -/
variable {e : TypeId} {size n : Nat} {v : Value} {xs : List Value}

theorem Own.nil (h : Own w0 w ps) (e : TypeId) (size : Nat) : Own w0 w (slc e size (.slice none 0 0) 0 [] :: ps) :=
  ⟨h.below, [], ⟨by simp, .inl ⟨rfl, rfl, rfl⟩⟩, by simp, by simp, by simpa using h.holds⟩
/-- nil, or a block. -/
theorem Own.slc_cases (h : Own w0 w (slc e size v n xs :: ps)) :
    (v = .slice none 0 0 ∧ n = 0 ∧ xs = [] ∧ Own w0 w ps) ∨
    ∃ g cap cur, v = .slice (some ⟨g, 0, none⟩) n cap ∧ xs.length = n * size ∧ n ≤ cap ∧ cap ≤ maxLen ∧ cur.size = cap * size ∧ cur.toList.take (n * size) = xs ∧ Own w0 w (blk g (.cells cur e) :: ps) := by
  have hd := h.drop
  obtain ⟨hb, x, ⟨hl, hx⟩, r⟩ := h
  rcases hx with ⟨rfl, rfl, rfl⟩ | ⟨g, cap, cur, rfl, rfl, h1, h2, h3, h4⟩
  · exact .inl ⟨rfl, rfl, List.eq_nil_of_length_eq_zero (by simpa using hl), hd⟩
  · exact .inr ⟨g, cap, cur, rfl, hl, h1, h2, h3, h4, hb, _, rfl, r⟩
theorem Own.slc_mk {g cap : Nat} {cur : Array Value} (h : Own w0 w (blk g (.cells cur e) :: ps)) (hl : xs.length = n * size) (h1 : n ≤ cap) (h2 : cap ≤ maxLen) (h3 : cur.size = cap * size) (h4 : cur.toList.take (n * size) = xs) :
    Own w0 w (slc e size (.slice (some ⟨g, 0, none⟩) n cap) n xs :: ps) := by
  obtain ⟨hb, x, rfl, r⟩ := h
  exact ⟨hb, _, ⟨hl, .inr ⟨g, cap, cur, rfl, rfl, h1, h2, h3, h4⟩⟩, r⟩
theorem Own.slc_len (h : Own w0 w (slc e size v n xs :: ps)) : xs.length = n * size := by
  obtain ⟨hb, x, ⟨hl, _⟩, _⟩ := h
  exact hl
/-- A made row: a slice of n elements. -/
theorem Own.made (h : Own w0 w ps) (cur : List Value) (e : TypeId) (size n : Nat) (hl : cur.length = n * size) (hm : n ≤ maxLen) :
    Own w0 (w.alloc (.cells cur.toArray e)) (slc e size (.slice (some ⟨w.heap.size, 0, none⟩) n n) n cur :: ps) :=
  (h.alloc (.cells cur.toArray e)).slc_mk hl (Nat.le_refl _) hm (by simpa using hl) (by simp [← hl])
end

end Go.Proofs.Ytfeamlbkogigkaa
