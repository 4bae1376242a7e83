/-
  Queues: what comes in: waits.
-/
import Derived.Test.YtnbekiggoejogaaOpen
import Derived.Test.YtnbekiggoejogaaRingD
namespace Go.Proofs.Ytnbekiggoejogaa
open Go.RowKit Go.ChangeShapes Go.WideShapes Go.Deep

theorem open_wd {H : Type} {enc : TypeId × Value → H} {w : World} {m : Nat} {cs : List Value} {x : DataW H × List MemPlace}
    (h : DataW.trod enc Try.prog w 0 (fun _ => true) true m 32 cs = some x) : ∃ d : Bool × Int, cs = wrow d := by
  obtain ⟨y0, y1, n, _, hl, g0, g1⟩ := trod_struct2 Try.underlying32 h
  have hC : Try.prog.cellsOf 32 = 2 := by kernel_rfl
  have hi : Try.prog.cellsOf 3 = 1 := by kernel_rfl
  have hs : Try.prog.cellsOf 4 = 1 := by kernel_rfl
  rw [hC] at hl
  match cs, hl with
  | [u0, u1], _ =>
    simp only [hi, hs] at g0 g1
    obtain ⟨a, ha, _⟩ := DataW.trod_bool Try.underlying4 (by simpa using g0)
    obtain ⟨s, hs, _, ws⟩ := DataW.trod_int Try.underlying3 (by simpa using g1)
    simp at ha hs
    subst ha hs
    exact ⟨(a, s), rfl⟩
theorem open_wds {H : Type} {enc : TypeId × Value → H} {W : World} {a : Option Addr} {len cap : Nat} {d : DataW H} {p : List MemPlace}
    (h : DataW.Trod enc Try.prog W 0 (fun _ => true) true 22 (.slice a len cap) d p) :
    ∃ ds : List (Bool × Int), ds.length = len ∧ Rd W 2 (.slice a len cap) ds.length (rows wrow ds) := by
  obtain ⟨E, hr, hE, _⟩ := rd_open 2 Try.underlying22 (by kernel_rfl) rfl h
  obtain ⟨f, hf⟩ := choose_lt (α := Bool × Int) (p := fun i x => E i = wrow x) (fun i hi => by
    obtain ⟨_, m, x, hx⟩ := hE i hi
    exact open_wd hx)
  refine ⟨(List.range len).map f, by simp, ?_⟩
  have e : rows wrow ((List.range len).map f) = (List.range len).flatMap E := by
    unfold rows
    rw [List.flatMap_map]
    exact flatMap_congr_range fun i hi => (hf i hi).symm
  rw [e]; simpa using hr
end Go.Proofs.Ytnbekiggoejogaa
