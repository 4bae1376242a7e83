/-
  Gates: what comes in: texts; deeds.
-/
import Derived.Test.YtnjneeinpmehpaaFrame
import Derived.Test.YtnjneeinpmehpaaGateP
namespace Go.Proofs.Ytnjneeinpmehpaa
open Go.RowKit Go.ChangeShapes Go.WideShapes Go.Deep

theorem flatMap_one {α β : Type _} (g : α → β) (l : List α) : (l.flatMap fun i => [g i]) = l.map g := by
  induction l with
  | nil => rfl
  | cons x l ih => simp [ih]
theorem open_txs {H : Type} {enc : TypeId × Value → H} {W : World} {a : Option Addr} {len cap : Nat} {d : DataW H} {p : List MemPlace}
    (h : DataW.Trod enc Try.prog W 0 (fun _ => true) true 25 (.slice a len cap) d p) :
    ∃ L : List ByteArray, L.length = len ∧ Rd W 1 (.slice a len cap) L.length (txs L) := by
  obtain ⟨E, hr, hE, _⟩ := rd_open 1 Try.underlying25 (by kernel_rfl) rfl h
  obtain ⟨f, hf⟩ := choose_lt (α := ByteArray) (p := fun i x => E i = [.string x]) (fun i hi => by
    obtain ⟨_, m, x, hx⟩ := hE i hi
    obtain ⟨s, hs, _⟩ := DataW.trod_string Try.underlying9 hx
    exact ⟨s, hs⟩)
  refine ⟨(List.range len).map f, by simp, ?_⟩
  have e : txs ((List.range len).map f) = (List.range len).flatMap E := by
    have h1 : (List.range len).flatMap E = (List.range len).flatMap fun i => [.string (f i)] := flatMap_congr_range fun i hi => hf i hi
    rw [h1]
    rw [flatMap_one]
    simp [txs]
  rw [e]
  simpa using hr
theorem open_gd {H : Type} {enc : TypeId × Value → H} {w : World} {m : Nat} {cs : List Value} {x : DataW H × List MemPlace}
    (h : DataW.trod enc Try.prog w 0 (fun _ => true) true m 27 cs = some x) : ∃ d : Int × ByteArray, cs = [.int .i64 d.1, .string d.2] := by
  obtain ⟨y0, y1, n, _, hl, g0, g1⟩ := trod_struct2 Try.underlying27 h
  have hC : Try.prog.cellsOf 27 = 2 := by kernel_rfl
  have hi : Try.prog.cellsOf 3 = 1 := by kernel_rfl
  have hs : Try.prog.cellsOf 9 = 1 := by kernel_rfl
  rw [hC] at hl
  match cs, hl with
  | [u0, u1], _ =>
    simp only [hi, hs] at g0 g1
    obtain ⟨a, ha, _, wa⟩ := DataW.trod_int Try.underlying3 (by simpa using g0)
    obtain ⟨s, hs, _, ws⟩ := DataW.trod_string Try.underlying9 (by simpa using g1)
    simp at ha hs
    subst ha hs
    exact ⟨⟨a, s⟩, rfl⟩
theorem open_gds {H : Type} {enc : TypeId × Value → H} {W : World} {a : Option Addr} {len cap : Nat} {d : DataW H} {p : List MemPlace}
    (h : DataW.Trod enc Try.prog W 0 (fun _ => true) true 22 (.slice a len cap) d p) :
    ∃ ds : List (Int × ByteArray), Rd W 2 (.slice a len cap) len (gcells ds) := by
  obtain ⟨E, hr, hE, _⟩ := rd_open 2 Try.underlying22 (by kernel_rfl) rfl h
  obtain ⟨f, hf⟩ := choose_lt (α := Int × ByteArray) (p := fun i x => E i = [.int .i64 x.1, .string x.2]) (fun i hi => by
    obtain ⟨_, m, x, hx⟩ := hE i hi
    exact open_gd hx)
  refine ⟨(List.range len).map f, ?_⟩
  have e : gcells ((List.range len).map f) = (List.range len).flatMap E := by
    unfold gcells
    rw [List.flatMap_map]
    exact flatMap_congr_range fun i hi => (hf i hi).symm
  rw [e]; exact hr
end Go.Proofs.Ytnjneeinpmehpaa
