/-
  What comes in: ints; texts.
-/
import Derived.Test.YtfeamlbkogigkaaFrame
import Derived.Test.YtfeamlbkogigkaaRec
import Derived.Test.YtfeamlbkogigkaaRows
namespace Go.Proofs.Ytfeamlbkogigkaa
open Go.RowKit Go.ChangeShapes Go.WideShapes Go.Deep

theorem flatMap_one' {α β : Type _} (g : α → β) (l : List α) : (l.flatMap fun i => [g i]) = l.map g := by
  induction l with
  | nil => rfl
  | cons x l ih => simp [ih]
section
variable {H : Type} {enc : TypeId × Value → H} {W : World} {a : Option Addr} {len cap : Nat} {d : DataW H} {p : List MemPlace}
theorem open_nums (h : DataW.Trod enc Try.prog W 0 (fun _ => true) true 22 (.slice a len cap) d p) :
    ∃ L : List Int, L.length = len ∧ (∀ x ∈ L, -9223372036854775808 ≤ x ∧ x ≤ 9223372036854775807) ∧ Rd W 1 (.slice a len cap) L.length (nums L) := by
  obtain ⟨E, hr, hE, _⟩ := rd_open 1 Try.underlying22 (by kernel_rfl) rfl h
  obtain ⟨f, hf⟩ := choose_lt (α := Int) (p := fun i x => E i = [.int .i64 x] ∧ -9223372036854775808 ≤ x ∧ x ≤ 9223372036854775807) (fun i hi => by
    obtain ⟨_, m, x, hx⟩ := hE i hi
    obtain ⟨s, hs, _, ws⟩ := DataW.trod_int Try.underlying3 hx
    exact ⟨s, hs, wf_bounds ws⟩)
  refine ⟨(List.range len).map f, by simp, fun x hx => ?_, ?_⟩
  · obtain ⟨i, hi, rfl⟩ := List.mem_map.1 hx
    exact (hf i (List.mem_range.1 hi)).2
  · have e : nums ((List.range len).map f) = (List.range len).flatMap E := by
      have h1 : (List.range len).flatMap E = (List.range len).flatMap fun i => [.int .i64 (f i)] := flatMap_congr_range fun i hi => (hf i hi).1
      rw [h1, flatMap_one']
      simp [nums]
    rw [e]
    simpa using hr
end
end Go.Proofs.Ytfeamlbkogigkaa
