/-
  Bits: deeds, and the bits that are there after each. No program in sight.
-/
import Derived.Test.YtbooacglmeoceaaBitsBkP
import Derived.Test.YtbooacglmeoceaaBitsL2
namespace Go.Proofs.Ytbooacglmeoceaa
open Go.RowKit

def Dd.norm (d : Dd) : Dd := { d with n := if d.n % 64 > 62 then 62 else d.n % 64 }
def bitsAfter (ds : List Dd) : List Bool := ds.foldl (fun b d => d.put b) []
theorem bitsAfter_snoc (ds : List Dd) (d : Dd) : bitsAfter (ds ++ [d]) = d.put (bitsAfter ds) := by simp [bitsAfter]
/-- What a deed adds. -/
def Dd.adds (d : Dd) (n : Nat) : List Bool :=
  if d.k = 0 ∨ d.k = 1 then bitsOf d.v (cut d.n) else if d.k = 2 then (bitsOf d.v (cut d.n)).reverse else if d.k = 3 then List.replicate (padN n) false else List.replicate (padN n) false ++ textBits d.s
theorem Dd.put_adds (d : Dd) (bs : List Bool) : d.put bs = bs ++ d.adds bs.length := by
  unfold Dd.put Dd.adds
  split
  · rfl
  · split
    · rfl
    · split
      · rfl
      · rw [aligned, List.append_assoc]
theorem bitsAfter_append (ds es : List Dd) : ∃ r, bitsAfter (ds ++ es) = bitsAfter ds ++ r := by
  induction es generalizing ds with
  | nil => exact ⟨[], by simp⟩
  | cons d es ih =>
    obtain ⟨r, hr⟩ := ih (ds ++ [d])
    rw [bitsAfter_snoc, Dd.put_adds] at hr
    exact ⟨d.adds (bitsAfter ds).length ++ r, by rw [← List.append_assoc, ← hr]; simp⟩
/-- What stands behind the first k deeds, in the text. -/
theorem at_deed (ds : List Dd) (k : Nat) (d : Dd) (hd : ds[k]? = some d) :
    ∃ r, textBits (textOf (bitsAfter ds)) = bitsAfter (ds.take k) ++ (d.adds (bitsAfter (ds.take k)).length ++ r) ∧ bitsAfter (ds.take (k + 1)) = bitsAfter (ds.take k) ++ d.adds (bitsAfter (ds.take k)).length := by
  have h1 : ds.take (k + 1) = ds.take k ++ [d] := by rw [List.take_add_one, hd]; rfl
  have h2 : bitsAfter (ds.take (k + 1)) = bitsAfter (ds.take k) ++ d.adds (bitsAfter (ds.take k)).length := by rw [h1, bitsAfter_snoc, Dd.put_adds]
  obtain ⟨r, hr⟩ := bitsAfter_append (ds.take (k + 1)) (ds.drop (k + 1))
  rw [List.take_append_drop, h2] at hr
  refine ⟨r ++ List.replicate (padN (bitsAfter ds).length) false, ?_, h2⟩
  rw [textBits_textOf, aligned]
  conv => lhs; arg 1; rw [hr]
  simp [List.append_assoc]
theorem ddcells_append (ds es : List Dd) : ddcells (ds ++ es) = ddcells ds ++ ddcells es := by simp [ddcells]
theorem ddcells_set (pre post : List Dd) (d : Dd) (x : Int) : (ddcells (pre ++ d :: post)).set (pre.length * 4 + 2) (.int .i64 x) = ddcells (pre ++ { d with n := x } :: post) := by
  rw [ddcells_append, ddcells_append, List.set_append_right _ _ (by rw [ddcells_length]; omega), ddcells_length]
  congr 1
  rw [show pre.length * 4 + 2 - pre.length * 4 = 2 by omega]
  rfl
end Go.Proofs.Ytbooacglmeoceaa
