/-
  Queues: what comes in: texts; deeds; waits.
-/
import Derived.Test.YtnbekiggoejogaaOpen
import Derived.Test.YtnbekiggoejogaaRingP
namespace Go.Proofs.Ytnbekiggoejogaa
open Go.RowKit Go.ChangeShapes Go.WideShapes Go.Deep

section
variable {H : Type} {enc : TypeId × Value → H} {W : World} {a : Option Addr} {len cap : Nat} {d : DataW H} {p : List MemPlace}
theorem open_txs (h : DataW.Trod enc Try.prog W 0 (fun _ => true) true 50 (.slice a len cap) d p) :
    ∃ L : List ByteArray, L.length = len ∧ Rd W 1 (.slice a len cap) L.length (txs L) := by
  obtain ⟨E, hr, hE, _⟩ := rd_open 1 Try.underlying50 (by kernel_rfl) rfl h
  obtain ⟨f, hf⟩ := choose_lt (α := ByteArray) (p := fun i x => E i = [.string x]) (fun i hi => by
    obtain ⟨_, m, x, hx⟩ := hE i hi
    obtain ⟨s, hs, _⟩ := DataW.trod_string Try.underlying9 hx
    exact ⟨s, hs⟩)
  refine ⟨(List.range len).map f, by simp, ?_⟩
  have e : txs ((List.range len).map f) = (List.range len).flatMap E := by
    have h1 : (List.range len).flatMap E = (List.range len).flatMap fun i => [.string (f i)] := flatMap_congr_range fun i hi => hf i hi
    rw [h1, flatMap_one']
    simp [txs]
  rw [e]
  simpa using hr
theorem open_pds (h : DataW.Trod enc Try.prog W 0 (fun _ => true) true 40 (.slice a len cap) d p) :
    ∃ ds : List (Int × Int), ds.length = len ∧ (∀ x ∈ ds, -9223372036854775808 ≤ x.2 ∧ x.2 ≤ 9223372036854775807) ∧ Rd W 2 (.slice a len cap) ds.length (rows prow ds) := by
  obtain ⟨E, hr, hE, _⟩ := rd_open 2 Try.underlying40 (by kernel_rfl) rfl h
  obtain ⟨f, hf⟩ := choose_lt (α := Int × Int) (p := fun i x => E i = prow x ∧ (-9223372036854775808 ≤ x.2 ∧ x.2 ≤ 9223372036854775807)) (fun i hi => by
    obtain ⟨_, m, x, hx⟩ := hE i hi
    obtain ⟨u, v, hu, b1, b2⟩ := open_two_ints Try.underlying44 (by kernel_rfl) ⟨rfl, rfl, rfl, rfl, by kernel_rfl, by kernel_rfl⟩ Try.underlying3 Try.underlying3 hx
    exact ⟨(u, v), hu, b2⟩)
  refine ⟨(List.range len).map f, by simp, fun x hx => ?_, ?_⟩
  · obtain ⟨i, hi, rfl⟩ := List.mem_map.1 hx
    exact (hf i (List.mem_range.1 hi)).2
  · have e : rows prow ((List.range len).map f) = (List.range len).flatMap E := by
      unfold rows
      rw [List.flatMap_map]
      exact flatMap_congr_range fun i hi => (hf i hi).1.symm
    rw [e]; simpa using hr
end
end Go.Proofs.Ytnbekiggoejogaa
