/-
  Texts of this claim, one behind the other: sledgelaw32.Awake.
-/
import Derived.Test.YthekdeikodppkaaGreatDoorKb27
set_option linter.unusedVariables false
namespace Go.Proofs.YthekdeikodppkaaGreatDoor
open Go.RowKit
noncomputable def wp12:Prims:=pr2
theorem wp12_ok:Qc FF Tryz.prog wp12:=Jn
theorem run12:okEq (aRun Tryz.prog wp12 400 40 25 wa12 W.hp19) wv12 W.hp20=true:=
 (Qo W.hp19.bs fun m=>okEq (aRun Tryz.prog wp12 400 40 25 wa12 ⟨m,W.hp19.nv⟩) wv12 W.hp20).symm.trans (by kernel_rfl)
theorem known12:Qc FF Tryz.prog (tabPr 25 wa12 W.hp19 wv12 W.hp20):=Qc.tab (Qt Qk wp12_ok 400 40) (Qw run12)
end Go.Proofs.YthekdeikodppkaaGreatDoor
