/-
  Bits: the deeds that come in.
-/
import Derived.Test.YtbooacglmeoceaaFrame
import Derived.Test.YtbooacglmeoceaaBitsPl
namespace Go.Proofs.Ytbooacglmeoceaa
open Go.RowKit Go.ChangeShapes Go.WideShapes Go.Deep Go.Joins

instance : Inhabited Dd := ⟨⟨0, 0, 0, ByteArray.empty⟩⟩

theorem open_dd {H : Type} {enc : TypeId × Value → H} {w : World} {m : Nat} {cs : List Value} {x : DataW H × List MemPlace}
    (h : DataW.trod enc Try.prog w 0 (fun _ => true) true m 34 cs = some x) : ∃ d : Dd, cs = d.cells ∧ d.Okay := by
  obtain ⟨y0, y1, y2, y3, n, _, hl, g0, g1, g2, g3⟩ := trod_struct4 Try.underlying34 h
  have hC : Try.prog.cellsOf 34 = 4 := by kernel_rfl
  have hi : Try.prog.cellsOf 3 = 1 := by kernel_rfl
  have hs : Try.prog.cellsOf 9 = 1 := by kernel_rfl
  rw [hC] at hl
  match cs, hl with
  | [u0, u1, u2, u3], _ =>
    simp only [hi, hs] at g0 g1 g2 g3
    obtain ⟨a, ha, _, wa⟩ := DataW.trod_int Try.underlying3 (by simpa using g0)
    obtain ⟨b, hb, _, wb⟩ := DataW.trod_int Try.underlying3 (by simpa using g1)
    obtain ⟨c, hc, _, wc⟩ := DataW.trod_int Try.underlying3 (by simpa using g2)
    obtain ⟨s, hs, _, ws⟩ := DataW.trod_string Try.underlying9 (by simpa using g3)
    simp at ha hb hc hs
    subst ha hb hc hs
    exact ⟨⟨a, b, c, s⟩, rfl, wf_bounds wa, wf_bounds wb, wf_bounds wc⟩

theorem open_dds {H : Type} {enc : TypeId × Value → H} {W : World} {a : Option Addr} {len cap : Nat} {d : DataW H} {p : List MemPlace}
    (h : DataW.Trod enc Try.prog W 0 (fun _ => true) true 22 (.slice a len cap) d p) :
    ∃ ds : List Dd, Rd W 4 (.slice a len cap) len (ddcells ds) ∧ ∀ x ∈ ds, x.Okay := by
  obtain ⟨E, hr, hE, _⟩ := rd_open 4 Try.underlying22 (by kernel_rfl) rfl h
  obtain ⟨f, hf⟩ := choose_lt (α := Dd) (p := fun i x => E i = x.cells ∧ x.Okay) (fun i hi => by
    obtain ⟨_, m, x, hx⟩ := hE i hi
    exact open_dd hx)
  refine ⟨(List.range len).map f, ?_, fun x hx => ?_⟩
  · have e : ddcells ((List.range len).map f) = (List.range len).flatMap E := by
      unfold ddcells
      rw [List.flatMap_map]
      exact flatMap_congr_range fun i hi => (hf i hi).1.symm
    rw [e]
    exact hr
  · obtain ⟨i, hi, rfl⟩ := List.mem_map.1 hx
    exact (hf i (List.mem_range.1 hi)).2
end Go.Proofs.Ytbooacglmeoceaa
