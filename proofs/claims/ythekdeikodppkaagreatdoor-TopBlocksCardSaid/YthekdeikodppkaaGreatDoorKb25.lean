/-
  Texts of this claim, one behind the other: sledgelaw32.Awake.
-/
import Derived.Test.YthekdeikodppkaaGreatDoorKb24
set_option linter.unusedVariables false
namespace Go.Proofs.YthekdeikodppkaaGreatDoor
open Go.RowKit
noncomputable def wp0:Prims:=pr2
theorem wp0_ok:Qc FF Tryz.prog wp0:=Jn
theorem run0:okEq (aRun Tryz.prog wp0 400 40 23 wa0 W.hp0) wv0 W.hp1=true:=
 (Qo W.hp0.bs fun m=>okEq (aRun Tryz.prog wp0 400 40 23 wa0 ⟨m,W.hp0.nv⟩) wv0 W.hp1).symm.trans (by kernel_rfl)
theorem known0:Qc FF Tryz.prog (tabPr 23 wa0 W.hp0 wv0 W.hp1):=Qc.tab (Qt Qk wp0_ok 400 40) (Qw run0)
noncomputable def wp1:Prims:=pr2
theorem wp1_ok:Qc FF Tryz.prog wp1:=Jn
theorem run1:okEq (aRun Tryz.prog wp1 400 40 25 wa1 W.hp2) wv1 W.hp3=true:=
 (Qo W.hp2.bs fun m=>okEq (aRun Tryz.prog wp1 400 40 25 wa1 ⟨m,W.hp2.nv⟩) wv1 W.hp3).symm.trans (by kernel_rfl)
theorem known1:Qc FF Tryz.prog (tabPr 25 wa1 W.hp2 wv1 W.hp3):=Qc.tab (Qt Qk wp1_ok 400 40) (Qw run1)
noncomputable def wp2:Prims:=pr2
theorem wp2_ok:Qc FF Tryz.prog wp2:=Jn
theorem run2:okEq (aRun Tryz.prog wp2 400 40 25 wa2 W.hp3) wv2 W.hp4=true:=
 (Qo W.hp3.bs fun m=>okEq (aRun Tryz.prog wp2 400 40 25 wa2 ⟨m,W.hp3.nv⟩) wv2 W.hp4).symm.trans (by kernel_rfl)
theorem known2:Qc FF Tryz.prog (tabPr 25 wa2 W.hp3 wv2 W.hp4):=Qc.tab (Qt Qk wp2_ok 400 40) (Qw run2)
end Go.Proofs.YthekdeikodppkaaGreatDoor
