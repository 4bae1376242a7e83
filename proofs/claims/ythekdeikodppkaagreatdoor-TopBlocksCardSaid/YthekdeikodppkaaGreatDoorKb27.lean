/-
  Texts of this claim, one behind the other: sledgelaw32.Awake.
-/
import Derived.Test.YthekdeikodppkaaGreatDoorKb26
set_option linter.unusedVariables false
namespace Go.Proofs.YthekdeikodppkaaGreatDoor
open Go.RowKit
noncomputable def wp9:Prims:=orPr (tabPr 159 wa8 W.hp13 wv8 W.hp14) (orPr (tabPr 159 wa5 W.hp8 wv5 W.hp9) pr2)
theorem wp9_ok:Qc FF Tryz.prog wp9:=(known8.or (known5.or Jn))
theorem run9:okEq (aRun Tryz.prog wp9 400 40 102 wa9 W.hp15) wv9 W.hp16=true:=
 (Qo W.hp15.bs fun m=>okEq (aRun Tryz.prog wp9 400 40 102 wa9 ⟨m,W.hp15.nv⟩) wv9 W.hp16).symm.trans (by kernel_rfl)
theorem known9:Qc FF Tryz.prog (tabPr 102 wa9 W.hp15 wv9 W.hp16):=Qc.tab (Qt Qk wp9_ok 400 40) (Qw run9)
noncomputable def wp10:Prims:=pr2
theorem wp10_ok:Qc FF Tryz.prog wp10:=Jn
theorem run10:okEq (aRun Tryz.prog wp10 400 40 103 wa10 W.hp17) wv10 W.hp18=true:=
 (Qo W.hp17.bs fun m=>okEq (aRun Tryz.prog wp10 400 40 103 wa10 ⟨m,W.hp17.nv⟩) wv10 W.hp18).symm.trans (by kernel_rfl)
theorem known10:Qc FF Tryz.prog (tabPr 103 wa10 W.hp17 wv10 W.hp18):=Qc.tab (Qt Qk wp10_ok 400 40) (Qw run10)
noncomputable def wp11:Prims:=orPr (tabPr 103 wa10 W.hp17 wv10 W.hp18) (orPr (tabPr 102 wa9 W.hp15 wv9 W.hp16) pr2)
theorem wp11_ok:Qc FF Tryz.prog wp11:=(known10.or (known9.or Jn))
theorem run11:okEq (aRun Tryz.prog wp11 400 40 25 wa11 W.hp4) wv11 W.hp19=true:=
 (Qo W.hp4.bs fun m=>okEq (aRun Tryz.prog wp11 400 40 25 wa11 ⟨m,W.hp4.nv⟩) wv11 W.hp19).symm.trans (by kernel_rfl)
theorem known11:Qc FF Tryz.prog (tabPr 25 wa11 W.hp4 wv11 W.hp19):=Qc.tab (Qt Qk wp11_ok 400 40) (Qw run11)
end Go.Proofs.YthekdeikodppkaaGreatDoor
