/-
  Texts of this claim, one behind the other: sledgelaw32.Awake.
-/
import Derived.Test.YthekdeikodppkaaGreatDoorKb33
set_option linter.unusedVariables false
namespace Go.Proofs.YthekdeikodppkaaGreatDoor
open Go.RowKit
theorem awake_any(w:World):Calls Tryz.prog 7 #[] w (fun e w'=>e=.returned (.bool true)∧Own w w' []):=by
 have h:=Qt Qk wp36_ok 400 40 7 [] W.hp56 wv36 W.hp57 (Qw run36) ⟨[],[]⟩ w w #[] ⟨Below.refl _ _,rfl,rfl,fun i o x h=>by simp [W.hp56,wcat] at h,fun i j o o' x y _ h=>by simp [W.hp56,wcat] at h⟩ (by simp [VRs])
 refine h.mono ?_
 rintro en w' ⟨u,rfl,e',-,hv,hr⟩
 cases hv
 exact ⟨rfl,hr.below,trivial⟩
#print axioms awake_any
end Go.Proofs.YthekdeikodppkaaGreatDoor
