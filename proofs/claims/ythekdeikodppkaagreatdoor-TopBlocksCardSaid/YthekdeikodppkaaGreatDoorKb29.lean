/-
  Texts of this claim, one behind the other: sledgelaw32.Awake.
-/
import Derived.Test.YthekdeikodppkaaGreatDoorKb28
set_option linter.unusedVariables false
namespace Go.Proofs.YthekdeikodppkaaGreatDoor
open Go.RowKit
noncomputable def wp13:Prims:=pr2
theorem wp13_ok:Qc FF Tryz.prog wp13:=Jn
theorem run13:okEq (aRun Tryz.prog wp13 400 40 159 wa13 W.hp21) wv13 W.hp22=true:=
 (Qo W.hp21.bs fun m=>okEq (aRun Tryz.prog wp13 400 40 159 wa13 ⟨m,W.hp21.nv⟩) wv13 W.hp22).symm.trans (by kernel_rfl)
theorem known13:Qc FF Tryz.prog (tabPr 159 wa13 W.hp21 wv13 W.hp22):=Qc.tab (Qt Qk wp13_ok 400 40) (Qw run13)
noncomputable def wp14:Prims:=pr2
theorem wp14_ok:Qc FF Tryz.prog wp14:=Jn
theorem run14:okEq (aRun Tryz.prog wp14 400 40 159 wa14 W.hp23) wv14 W.hp24=true:=
 (Qo W.hp23.bs fun m=>okEq (aRun Tryz.prog wp14 400 40 159 wa14 ⟨m,W.hp23.nv⟩) wv14 W.hp24).symm.trans (by kernel_rfl)
theorem known14:Qc FF Tryz.prog (tabPr 159 wa14 W.hp23 wv14 W.hp24):=Qc.tab (Qt Qk wp14_ok 400 40) (Qw run14)
end Go.Proofs.YthekdeikodppkaaGreatDoor
