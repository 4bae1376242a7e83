/-
  Texts of this claim, one behind the other: sledgelaw32.Awake.
-/
import Derived.Test.YthekdeikodppkaaGreatDoorKb31
set_option linter.unusedVariables false
namespace Go.Proofs.YthekdeikodppkaaGreatDoor
open Go.RowKit
noncomputable def wp27:Prims:=orPr (tabPr 232 wa26 W.hp44 wv26 W.hp45) (orPr (tabPr 234 wa25 W.hp43 wv25 W.hp44) (orPr (tabPr 149 wa24 W.hp41 wv24 W.hp42) (orPr (tabPr 149 wa23 W.hp39 wv23 W.hp40) pr2)))
theorem wp27_ok:Qc FF Tryz.prog wp27:=(known26.or (known25.or (known24.or (known23.or Jn))))
theorem run27:okEq (aRun Tryz.prog wp27 400 40 159 wa27 W.hp29) wv27 W.hp46=true:=
 (Qo W.hp29.bs fun m=>okEq (aRun Tryz.prog wp27 400 40 159 wa27 ⟨m,W.hp29.nv⟩) wv27 W.hp46).symm.trans (by kernel_rfl)
theorem known27:Qc FF Tryz.prog (tabPr 159 wa27 W.hp29 wv27 W.hp46):=Qc.tab (Qt Qk wp27_ok 400 40) (Qw run27)
noncomputable def wp28:Prims:=pr2
theorem wp28_ok:Qc FF Tryz.prog wp28:=Jn
theorem run28:okEq (aRun Tryz.prog wp28 400 40 158 wa28 W.hp47) wv28 W.hp47=true:=
 (Qo W.hp47.bs fun m=>okEq (aRun Tryz.prog wp28 400 40 158 wa28 ⟨m,W.hp47.nv⟩) wv28 W.hp47).symm.trans (by kernel_rfl)
theorem known28:Qc FF Tryz.prog (tabPr 158 wa28 W.hp47 wv28 W.hp47):=Qc.tab (Qt Qk wp28_ok 400 40) (Qw run28)
noncomputable def wp29:Prims:=orPr (tabPr 158 wa28 W.hp47 wv28 W.hp47) (orPr (tabPr 159 wa27 W.hp29 wv27 W.hp46) (orPr (tabPr 159 wa22 W.hp37 wv22 W.hp38) (orPr (tabPr 158 wa17 W.hp29 wv17 W.hp29) (orPr (tabPr 156 wa16 W.hp27 wv16 W.hp28) pr2))))
theorem wp29_ok:Qc FF Tryz.prog wp29:=(known28.or (known27.or (known22.or (known17.or (known16.or Jn)))))
theorem run29:okEq (aRun Tryz.prog wp29 400 40 102 wa29 W.hp27) wv29 W.hp48=true:=
 (Qo W.hp27.bs fun m=>okEq (aRun Tryz.prog wp29 400 40 102 wa29 ⟨m,W.hp27.nv⟩) wv29 W.hp48).symm.trans (by kernel_rfl)
theorem known29:Qc FF Tryz.prog (tabPr 102 wa29 W.hp27 wv29 W.hp48):=Qc.tab (Qt Qk wp29_ok 400 40) (Qw run29)
noncomputable def wp30:Prims:=pr2
theorem wp30_ok:Qc FF Tryz.prog wp30:=Jn
theorem run30:okEq (aRun Tryz.prog wp30 400 40 103 wa30 W.hp49) wv30 W.hp50=true:=
 (Qo W.hp49.bs fun m=>okEq (aRun Tryz.prog wp30 400 40 103 wa30 ⟨m,W.hp49.nv⟩) wv30 W.hp50).symm.trans (by kernel_rfl)
theorem known30:Qc FF Tryz.prog (tabPr 103 wa30 W.hp49 wv30 W.hp50):=Qc.tab (Qt Qk wp30_ok 400 40) (Qw run30)
noncomputable def wp31:Prims:=orPr (tabPr 103 wa30 W.hp49 wv30 W.hp50) (orPr (tabPr 102 wa29 W.hp27 wv29 W.hp48) (orPr (tabPr 102 wa15 W.hp25 wv15 W.hp26) pr2))
theorem wp31_ok:Qc FF Tryz.prog wp31:=(known30.or (known29.or (known15.or Jn)))
theorem run31:okEq (aRun Tryz.prog wp31 400 40 25 wa31 W.hp20) wv31 W.hp51=true:=
 (Qo W.hp20.bs fun m=>okEq (aRun Tryz.prog wp31 400 40 25 wa31 ⟨m,W.hp20.nv⟩) wv31 W.hp51).symm.trans (by kernel_rfl)
theorem known31:Qc FF Tryz.prog (tabPr 25 wa31 W.hp20 wv31 W.hp51):=Qc.tab (Qt Qk wp31_ok 400 40) (Qw run31)
end Go.Proofs.YthekdeikodppkaaGreatDoor
