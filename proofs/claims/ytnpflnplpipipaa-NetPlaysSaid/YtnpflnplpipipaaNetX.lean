/-
  net: what comes in: deeds.
-/
import Derived.Test.YtnpflnplpipipaaNetH
import Derived.Test.YtnpflnplpipipaaNetW
namespace Go.Proofs.Ytnpflnplpipipaa
open Go.RowKit Go.ChangeShapes Go.WideShapes Go.Deep

theorem open_deed {H : Type} {enc : TypeId × Value → H} {w : World} {m : Nat} {cs : List Value} {x : DataW H × List MemPlace}
    (h : DataW.trod enc Try.prog w 0 (fun _ => true) true m 42 cs = some x) : ∃ d : De, cs = dcell d ∧ In64 d.dst ∧ In64 d.cl := by
  obtain ⟨xs, n, _, rfl, hl, hlen, hf⟩ := DataW.trod_struct Try.underlying42 h
  have hC : Try.prog.cellsOf 42 = 7 := by kernel_rfl
  have hi : Try.prog.cellsOf 3 = 1 := by kernel_rfl
  have hF : Try.prog.cellsOf 30 = 3 := by kernel_rfl
  rw [hC] at hl
  match cs, hl, xs, hlen, hf with
  | [u0, u1, u2, u3, u4, u5, u6], _, [y0, y1, y2, y3, y4], _, hf =>
    have g0 : DataW.trod enc Try.prog w 0 (fun _ => true) true n 3 [u0] = some y0 := hf 0 _ rfl
    have g1 : DataW.trod enc Try.prog w 0 (fun _ => true) true n 3 [u1] = some y1 := hf 1 _ rfl
    have g2 : DataW.trod enc Try.prog w 0 (fun _ => true) true n 3 [u2] = some y2 := hf 2 _ rfl
    have g3 : DataW.trod enc Try.prog w 0 (fun _ => true) true n 3 [u3] = some y3 := hf 3 _ rfl
    have g4 : DataW.trod enc Try.prog w 0 (fun _ => true) true n 30 [u4, u5, u6] = some y4 := hf 4 _ rfl
    obtain ⟨a, ha, _, wa⟩ := DataW.trod_int Try.underlying3 g0
    obtain ⟨b, hb, _, wb⟩ := DataW.trod_int Try.underlying3 g1
    obtain ⟨c, hc, _, wc⟩ := DataW.trod_int Try.underlying3 g2
    obtain ⟨d, hd, _, wd⟩ := DataW.trod_int Try.underlying3 g3
    obtain ⟨f, hfa⟩ := open_fate g4
    simp at ha hb hc hd
    subst ha hb hc hd
    refine ⟨⟨a, b, c, d, f⟩, ?_, wf_bounds wb, wf_bounds wc⟩
    simp only [fcell, List.cons.injEq, and_true] at hfa
    obtain ⟨rfl, rfl, rfl⟩ := hfa
    rfl
instance : Inhabited De := ⟨⟨0, 0, 0, 0, default⟩⟩
theorem open_deeds {H : Type} {enc : TypeId × Value → H} {W : World} {a : Option Addr} {len cap : Nat} {d : DataW H} {p : List MemPlace}
    (h : DataW.Trod enc Try.prog W 0 (fun _ => true) true 38 (.slice a len cap) d p) :
    ∃ ds : List De, ds.length = len ∧ (∀ d ∈ ds, In64 d.dst ∧ In64 d.cl) ∧ Rd W 7 (.slice a len cap) ds.length (rows dcell ds) := by
  obtain ⟨E, hr, hE, _⟩ := rd_open 7 Try.underlying38 (by kernel_rfl) rfl h
  obtain ⟨f, hf⟩ := choose_lt (α := De) (p := fun i x => E i = dcell x ∧ In64 x.dst ∧ In64 x.cl) (fun i hi => by
    obtain ⟨_, m, x, hx⟩ := hE i hi
    exact open_deed hx)
  refine ⟨(List.range len).map f, by simp, fun d hd => ?_, ?_⟩
  · obtain ⟨i, hi, rfl⟩ := List.mem_map.1 hd
    exact (hf i (List.mem_range.1 hi)).2
  · have e : rows dcell ((List.range len).map f) = (List.range len).flatMap E := by
      unfold rows
      rw [List.flatMap_map]
      exact flatMap_congr_range fun i hi => (hf i hi).1.symm
    rw [e]; simpa using hr
end Go.Proofs.Ytnpflnplpipipaa
