/-
  net: what comes in: a bound, fates.
-/
import Derived.Test.YtnpflnplpipipaaFrame
import Derived.Test.YtnpflnplpipipaaRec
import Derived.Test.YtnpflnplpipipaaRows
import Derived.Test.YtnpflnplpipipaaNetQ
namespace Go.Proofs.Ytnpflnplpipipaa
open Go.RowKit Go.ChangeShapes Go.WideShapes Go.Deep

theorem open_fate {H : Type} {enc : TypeId × Value → H} {w : World} {m : Nat} {cs : List Value} {x : DataW H × List MemPlace}
    (h : DataW.trod enc Try.prog w 0 (fun _ => true) true m 30 cs = some x) : ∃ f : Fa, cs = fcell f := by
  obtain ⟨y0, y1, y2, n, _, hl, g0, g1, g2⟩ := trod_struct3 Try.underlying30 h
  have hC : Try.prog.cellsOf 30 = 3 := by kernel_rfl
  have hi : Try.prog.cellsOf 3 = 1 := by kernel_rfl
  have hb : Try.prog.cellsOf 4 = 1 := by kernel_rfl
  rw [hC] at hl
  match cs, hl with
  | [u0, u1, u2], _ =>
    simp only [hi, hb] at g0 g1 g2
    obtain ⟨a, ha, _⟩ := DataW.trod_bool Try.underlying4 (by simpa using g0)
    obtain ⟨b, hb, _, wb⟩ := DataW.trod_int Try.underlying3 (by simpa using g1)
    obtain ⟨c, hc, _, wc⟩ := DataW.trod_int Try.underlying3 (by simpa using g2)
    simp at ha hb hc
    subst ha hb hc
    exact ⟨⟨a, b, c⟩, rfl⟩
instance : Inhabited Fa := ⟨⟨false, 0, 0⟩⟩
theorem open_fates {H : Type} {enc : TypeId × Value → H} {W : World} {a : Option Addr} {len cap : Nat} {d : DataW H} {p : List MemPlace}
    (h : DataW.Trod enc Try.prog W 0 (fun _ => true) true 24 (.slice a len cap) d p) :
    ∃ ds : List Fa, ds.length = len ∧ Rd W 3 (.slice a len cap) ds.length (rows fcell ds) := by
  obtain ⟨E, hr, hE, _⟩ := rd_open 3 Try.underlying24 (by kernel_rfl) rfl h
  obtain ⟨f, hf⟩ := choose_lt (α := Fa) (p := fun i x => E i = fcell x) (fun i hi => by
    obtain ⟨_, m, x, hx⟩ := hE i hi
    exact open_fate hx)
  refine ⟨(List.range len).map f, by simp, ?_⟩
  have e : rows fcell ((List.range len).map f) = (List.range len).flatMap E := by
    unfold rows
    rw [List.flatMap_map]
    exact flatMap_congr_range fun i hi => (hf i hi).symm
  rw [e]; simpa using hr
/-- A bound. -/
theorem open_fair {H : Type} {enc : TypeId × Value → H} {W : World} {v : Value} {d : DataW H} {p : List MemPlace} {base : Nat} (hv : Value.okWide Try.prog W .any base 23 v)
    (h : DataW.Trod enc Try.prog W 0 (fun _ => true) true 23 v d p) : ∃ K D : Int, v = .agg #[.int .i64 K, .int .i64 D] ∧ In64 K ∧ In64 D := by
  obtain ⟨cs, rfl, hs⟩ := okWide_struct Try.underlying23 hv
  obtain ⟨m, hm⟩ := h
  obtain ⟨a, b, h1, h2, h3⟩ := open_two_ints (t0 := 3) (t1 := 3) Try.underlying23 (by kernel_rfl) ⟨rfl, rfl, rfl, rfl, by kernel_rfl, by kernel_rfl⟩ Try.underlying3 Try.underlying3 hm
  refine ⟨a, b, ?_, h2, h3⟩
  have h1 : cs.toList = [.int .i64 a, .int .i64 b] := h1
  rw [← Array.toArray_toList (xs := cs), h1]
end Go.Proofs.Ytnpflnplpipipaa
