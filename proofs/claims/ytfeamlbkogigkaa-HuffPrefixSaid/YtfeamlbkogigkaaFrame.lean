/-
  What comes in, read: a slice of whatever elements; structs of a few plain fields. No program in sight.
-/
import Derived.Test.YtfeamlbkogigkaaApp
import Derived.ProofKit
import Derived.Deep.Slices
import Derived.SizedLaws
import Derived.Lib.SmallJoins
namespace Go.Proofs.Ytfeamlbkogigkaa
open Go.RowKit Go.ChangeShapes Go.WideShapes Go.Deep

section
variable {H : Type} {enc : TypeId × Value → H} {P : Program} {w : World}

/-- A slice that came in: n elements, the cells of the i-th E i, each of which reads as data of the element's type. -/
theorem rd_open {t e : TypeId} {v : Value} {d : DataW H} {p : List MemPlace} (size : Nat) (ht : P.underlying t = some (.slice e)) (hc : P.cellsOf e = size) {a : Option Addr} {len cap : Nat} (hv : v = .slice a len cap)
    (h : DataW.Trod enc P w 0 (fun _ => true) true t v d p) :
    ∃ (E : Nat → List Value), Rd w size v len ((List.range len).flatMap E) ∧ (∀ i, i < len → (E i).length = size ∧ ∃ m x, DataW.trod enc P w 0 (fun _ => true) true m e (E i) = some x) ∧
      (d = .nil ∧ len = 0 ∨ ∃ elems spare, d = .slice elems spare ∧ elems.length = len ∧ spare.length = cap - len) := by
  obtain ⟨fuel, hf⟩ := h
  subst hv
  rcases open_slice ht hf with ⟨hcs, hx⟩ | ⟨ad, len', cap', m, n, D, Pl, hcs, _, hl, hm, hmm, hx, hel⟩
  · simp [Value.cells] at hcs
    obtain ⟨rfl, rfl, rfl⟩ := hcs
    simp only [Prod.mk.injEq] at hx
    exact ⟨fun _ => [], by simpa using Rd.nil w size, fun i hi => by omega, .inl ⟨hx.1, rfl⟩⟩
  · simp [Value.cells] at hcs
    obtain ⟨rfl, rfl, rfl⟩ := hcs
    simp only [if_true] at hmm
    subst hmm
    obtain ⟨E, hE⟩ := choose_lt (α := List Value) (p := fun i cs' => w.cells? 0 (ad.add (i * P.cellsOf e)) (P.cellsOf e) = some cs' ∧ DataW.trod enc P w 0 (fun _ => true) true n e cs' = some (D i, Pl i)) hel
    have hlen : ∀ i, i < m → (E i).length = size := fun i hi => by
      obtain ⟨_, h2, _⟩ := World.cells?_some (hE i hi).1
      rw [← hc]; exact h2
    have hfl : ∀ k, k ≤ m → ((List.range k).flatMap E).length = k * size := by
      intro k
      induction k with
      | zero => intro _; simp
      | succ k ih =>
        intro hk
        rw [List.range_succ, List.flatMap_append, List.length_append, ih (by omega)]
        simp [hlen k (by omega), Nat.add_mul]
    have hget : ∀ k, k ≤ m → ∀ j u, ((List.range k).flatMap E)[j]? = some u → w.cell? (ad.add j) = some u := by
      intro k
      induction k with
      | zero => intro _ j u hu; simp at hu
      | succ k ih =>
        intro hk j u hu
        rw [List.range_succ, List.flatMap_append] at hu
        by_cases hj : j < ((List.range k).flatMap E).length
        · rw [List.getElem?_append_left hj] at hu
          exact ih (by omega) j u hu
        · rw [List.getElem?_append_right (by omega)] at hu
          rw [hfl k (by omega)] at hu hj
          obtain ⟨_, _, h3⟩ := World.cells?_some (hE k (by omega)).1
          have hu' : (E k)[j - k * size]? = some u := by simpa using hu
          have hlt : j - k * size < P.cellsOf e := by
            have := (List.getElem?_eq_some_iff.1 hu').1
            rw [hlen k (by omega)] at this
            rw [hc]; exact this
          have := h3 _ hlt
          rw [hu', hc, add_add] at this
          rw [show k * size + (j - k * size) = j by omega] at this
          exact this
    refine ⟨E, ⟨hfl len hl, _, _, rfl, hl, hm, by simp, fun ad' had => ?_⟩, fun i hi => ⟨hlen i (by omega), n, _, (hE i (by omega)).2⟩, .inr ?_⟩
    · cases had
      exact hget len hl
    · simp only [Prod.mk.injEq] at hx
      exact ⟨_, _, hx.1, by simp, by simp⟩

/-- Two integers. -/
theorem open_two_ints {e t0 t1 : TypeId} {f0 f1 : Field} {m : Nat} {cs : List Value} {x : DataW H × List MemPlace} (hs : P.underlying e = some (.struct #[f0, f1])) (hC : P.cellsOf e = 2)
    (ho : f0.offset = 0 ∧ f1.offset = 1 ∧ f0.type = t0 ∧ f1.type = t1 ∧ P.cellsOf t0 = 1 ∧ P.cellsOf t1 = 1) (h0 : P.underlying t0 = some (.int .i64)) (h1 : P.underlying t1 = some (.int .i64))
    (h : DataW.trod enc P w 0 (fun _ => true) true m e cs = some x) : ∃ a b : Int, cs = [.int .i64 a, .int .i64 b] ∧ (-9223372036854775808 ≤ a ∧ a ≤ 9223372036854775807) ∧ (-9223372036854775808 ≤ b ∧ b ≤ 9223372036854775807) := by
  obtain ⟨y0, y1, n, _, hl, g0, g1⟩ := trod_struct2 hs h
  obtain ⟨o0, o1, rfl, rfl, c0, c1⟩ := ho
  rw [hC] at hl
  match cs, hl with
  | [u, v], _ =>
    rw [o0, c0] at g0
    rw [o1, c1] at g1
    obtain ⟨a, ha, _, wa⟩ := DataW.trod_int h0 (by simpa using g0)
    obtain ⟨b, hb, _, wb⟩ := DataW.trod_int h1 (by simpa using g1)
    simp at ha hb
    subst ha hb
    exact ⟨a, b, rfl, wf_bounds wa, wf_bounds wb⟩
end
end Go.Proofs.Ytfeamlbkogigkaa
