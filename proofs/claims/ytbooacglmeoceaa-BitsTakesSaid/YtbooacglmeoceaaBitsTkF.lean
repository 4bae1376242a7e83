/-
  Bits: the asks that come in.
-/
import Derived.Test.YtbooacglmeoceaaFrame
import Derived.Test.YtbooacglmeoceaaBitsTk
namespace Go.Proofs.Ytbooacglmeoceaa
open Go.RowKit Go.ChangeShapes Go.WideShapes Go.Deep

theorem open_asks {H : Type} {enc : TypeId × Value → H} {W : World} {a : Option Addr} {len cap : Nat} {d : DataW H} {p : List MemPlace}
    (h : DataW.Trod enc Try.prog W 0 (fun _ => true) true 40 (.slice a len cap) d p) :
    ∃ ds : List (Int × Int), Rd W 2 (.slice a len cap) len (acells ds) ∧ ∀ x ∈ ds, -9223372036854775808 ≤ x.2 ∧ x.2 ≤ 9223372036854775807 := by
  obtain ⟨E, hr, hE, _⟩ := rd_open 2 Try.underlying40 (by kernel_rfl) rfl h
  obtain ⟨f, hf⟩ := choose_lt (α := Int × Int) (p := fun i x => E i = [.int .i64 x.1, .int .i64 x.2] ∧ (-9223372036854775808 ≤ x.1 ∧ x.1 ≤ 9223372036854775807) ∧ (-9223372036854775808 ≤ x.2 ∧ x.2 ≤ 9223372036854775807)) (fun i hi => by
    obtain ⟨_, m, x, hx⟩ := hE i hi
    obtain ⟨u, v, hu, b1, b2⟩ := open_two_ints Try.underlying47 (by kernel_rfl) ⟨rfl, rfl, rfl, rfl, by kernel_rfl, by kernel_rfl⟩ Try.underlying3 Try.underlying3 hx
    exact ⟨(u, v), hu, b1, b2⟩)
  refine ⟨(List.range len).map f, ?_, fun x hx => ?_⟩
  · have e : acells ((List.range len).map f) = (List.range len).flatMap E := by
      unfold acells
      rw [List.flatMap_map]
      exact flatMap_congr_range fun i hi => (hf i hi).1.symm
    rw [e]; exact hr
  · obtain ⟨i, hi, rfl⟩ := List.mem_map.1 hx
    exact (hf i (List.mem_range.1 hi)).2.2
end Go.Proofs.Ytbooacglmeoceaa
