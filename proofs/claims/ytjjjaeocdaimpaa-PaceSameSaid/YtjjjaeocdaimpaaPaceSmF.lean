/-
  Pace: a deed that comes in by value.
-/
import Derived.Test.YtjjjaeocdaimpaaPaceF
import Derived.Test.YtjjjaeocdaimpaaPaceSm
import Derived.Lib.SmallJoins
namespace Go.Proofs.Ytjjjaeocdaimpaa
open Go.RowKit Go.ChangeShapes Go.WideShapes Go.Deep

theorem open_deed {H : Type} {enc : TypeId × Value → H} {W : World} {b0 : Nat} {v : Value} {d : DataW H} {p : List MemPlace} (hv : Value.okWide Try.prog W .any b0 29 v)
    (h : DataW.Trod enc Try.prog W 0 (fun _ => true) true 29 v d p) : ∃ x y : Int, v = .agg #[.int .i64 x, .int .i64 y] := by
  obtain ⟨cs, rfl, hsz⟩ := okWide_struct Try.underlying29 hv
  obtain ⟨fuel, hf⟩ := h
  obtain ⟨x, y, hc, _, _⟩ := open_two_ints Try.underlying29 (by kernel_rfl) ⟨rfl, rfl, rfl, rfl, by kernel_rfl, by kernel_rfl⟩ Try.underlying3 Try.underlying3 hf
  refine ⟨x, y, ?_⟩
  obtain ⟨cs⟩ := cs
  simp [Value.cells] at hc
  rw [hc]
end Go.Proofs.Ytjjjaeocdaimpaa
