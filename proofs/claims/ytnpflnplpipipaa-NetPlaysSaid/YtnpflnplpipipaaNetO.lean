/-
  net: the walk of NetOnly.
-/
import Derived.Test.YtnpflnplpipipaaNetF
import Derived.Test.YtnpflnplpipipaaBit
namespace Go.Proofs.Ytnpflnplpipipaa
open Go.RowKit Go.Maps

/-- What waits, in the order in which it was put. -/
def OrdX {X : Type} (M : List (It X)) (k : Nat) : Prop := (M.Pairwise fun x y => x.k < y.k) ∧ ∀ m ∈ M, m.k < (k : Int)
section
variable {X : Type} {M : List (It X)} {k : Nat}
theorem OrdX.keys (h : OrdX M k) : M.Pairwise fun x y => x.k ≠ y.k := h.1.imp fun h => by omega
theorem OrdX.take (h : OrdX M k) (j : Nat) : OrdX (M.eraseIdx j) k :=
  ⟨h.1.sublist (List.eraseIdx_sublist M j), fun m hm => h.2 m (List.mem_of_mem_eraseIdx hm)⟩
theorem OrdX.put (h : OrdX M k) {m : It X} (hm : m.k = (k : Int)) : OrdX (M ++ [m]) (k + 1) := by
  refine ⟨List.pairwise_append.2 ⟨h.1, by simp, fun x hx y hy => ?_⟩, fun x hx => ?_⟩
  · simp at hy; subst hy; have := h.2 x hx; omega
  · rcases List.mem_append.1 hx with hx | hx
    · have := h.2 x hx; omega
    · simp at hx; subst hx; omega
theorem exists_least : ∀ (M : List (It X)), M ≠ [] → ∃ (j : Nat) (m : It X), M[j]? = some m ∧ ∀ y ∈ M, ¬ y.lt m := by
  intro M
  induction M with
  | nil => intro h; exact absurd rfl h
  | cons a M ih =>
    intro _
    by_cases hM : M = []
    · subst hM
      exact ⟨0, a, rfl, fun y hy => by simp at hy; subst hy; exact It.irr y⟩
    · obtain ⟨j, m, hj, hm⟩ := ih hM
      by_cases h : m.lt a
      · refine ⟨j + 1, m, by simpa using hj, fun y hy => ?_⟩
        rcases List.mem_cons.1 hy with rfl | hy
        · exact It.asymm h
        · exact hm y hy
      · refine ⟨0, a, rfl, fun y hy => ?_⟩
        rcases List.mem_cons.1 hy with rfl | hy
        · exact It.irr y
        · exact It.ntrans (hm y hy) h
end
theorem OrdX.items {M : List (It (Int × ByteArray))} {k : Nat} (h : OrdX M k) (now dst : Int) (s : ByteArray) (f : Fa) : OrdX (M ++ itemsOf now dst s k f) (k + (itemsOf now dst s k f).length) := by
  rw [itemsOf_eq]
  split
  · simpa using h
  · have key : ∀ n, OrdX (M ++ (List.range n).map (itA now dst s k f.delay)) (k + n) := by
      intro n
      induction n with
      | zero => simpa using h
      | succ n ih =>
        rw [List.range_succ, List.map_append, ← List.append_assoc, ← Nat.add_assoc]
        exact ih.put (by simp [itA])
    have := key (f.copies.toNat + 1)
    simpa using this

/-- That a packet is one of those that were told. -/
def GoodIt (T : List Fa) (m : It (Int × ByteArray)) : Prop := ∃ i f, T[i]? = some f ∧ f.drop = false ∧ m.x = (((i % 2 : Nat) : Int), letterB i) ∧ 1 + f.delay ≤ m.at_ ∧ m.at_ ≤ 1 + f.delay + f.copies
/-- How many come. -/
def wantN : List Fa → Nat
  | [] => 0
  | f :: T => (if f.drop then 0 else f.copies.toNat + 1) + wantN T
theorem wantN_append (a b : List Fa) : wantN (a ++ b) = wantN a + wantN b := by
  induction a with
  | nil => simp [wantN]
  | cons f a ih => simp only [List.cons_append, wantN, ih]; omega
theorem wantN_le {T : List Fa} (h : ∀ f ∈ T, FOk f) : wantN T ≤ 4 * T.length := by
  induction T with
  | nil => simp [wantN]
  | cons f T ih =>
    have h1 := ih fun f hf => h f (by simp [hf])
    obtain ⟨_, _, _, h4⟩ := h f (by simp)
    simp only [wantN, List.length_cons]
    split <;> omega
theorem wantN_take {T : List Fa} {j : Nat} {f : Fa} (h : T[j]? = some f) : wantN (T.take (j + 1)) = wantN (T.take j) + (if f.drop then 0 else f.copies.toNat + 1) := by
  rw [List.take_add_one, h, wantN_append]
  simp [wantN]
theorem items_count (now dst : Int) (s : ByteArray) (k : Nat) (f : Fa) : (itemsOf now dst s k f).length = wantN [f] := by
  rw [itemsOf_eq]
  simp only [wantN, Nat.add_zero]
  split <;> simp
/-- What a told packet is under way is good. -/
theorem good_more {T : List Fa} {m : It (Int × ByteArray)} (f : Fa) (h : GoodIt T m) : GoodIt (T ++ [f]) m := by
  obtain ⟨i, g, h1, h2⟩ := h
  refine ⟨i, g, ?_, h2⟩
  rw [List.getElem?_append_left (List.getElem?_eq_some_iff.1 h1).1]
  exact h1
theorem good_new {T : List Fa} {f : Fa} {k : Nat} (hf : FOk f) {m : It (Int × ByteArray)} (h : m ∈ itemsOf ((0 : Nat) : Int) ((T.length % 2 : Nat) : Int) (letterB T.length) k f) : GoodIt (T ++ [f]) m := by
  obtain ⟨h1, h2, h3, h4⟩ := hf
  rw [itemsOf_eq] at h
  split at h
  · simp at h
  · next hd =>
    obtain ⟨i, hi, rfl⟩ := List.mem_map.1 h
    have hi := List.mem_range.1 hi
    refine ⟨T.length, f, by simp, by simpa using hd, rfl, ?_, ?_⟩ <;> simp only [itA] <;> omega
theorem all_put {T : List Fa} {M : List (It (Int × ByteArray))} {f : Fa} {k : Nat} (hf : FOk f) (h : ∀ m ∈ M, GoodIt T m) : ∀ m ∈ M ++ itemsOf ((0 : Nat) : Int) ((T.length % 2 : Nat) : Int) (letterB T.length) k f, GoodIt (T ++ [f]) m := by
  intro m hm
  rcases List.mem_append.1 hm with hm | hm
  · exact good_more f (h m hm)
  · exact good_new hf hm
end Go.Proofs.Ytnpflnplpipipaa
