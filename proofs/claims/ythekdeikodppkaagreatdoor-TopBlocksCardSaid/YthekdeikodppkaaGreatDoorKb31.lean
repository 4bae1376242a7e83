/-
  Texts of this claim, one behind the other: sledgelaw32.Awake.
-/
import Derived.Test.YthekdeikodppkaaGreatDoorKb30
set_option linter.unusedVariables false
namespace Go.Proofs.YthekdeikodppkaaGreatDoor
open Go.RowKit
noncomputable def wp21:Prims:=pr2
theorem wp21_ok:Qc FF Tryz.prog wp21:=Jn
theorem run21:okEq (aRun Tryz.prog wp21 400 40 232 wa21 W.hp35) wv21 W.hp36=true:=
 (Qo W.hp35.bs fun m=>okEq (aRun Tryz.prog wp21 400 40 232 wa21 ⟨m,W.hp35.nv⟩) wv21 W.hp36).symm.trans (by kernel_rfl)
theorem known21:Qc FF Tryz.prog (tabPr 232 wa21 W.hp35 wv21 W.hp36):=Qc.tab (Qt Qk wp21_ok 400 40) (Qw run21)
noncomputable def wp22:Prims:=orPr (tabPr 232 wa21 W.hp35 wv21 W.hp36) (orPr (tabPr 234 wa20 W.hp34 wv20 W.hp35) (orPr (tabPr 149 wa19 W.hp32 wv19 W.hp33) (orPr (tabPr 149 wa18 W.hp30 wv18 W.hp31) pr2)))
theorem wp22_ok:Qc FF Tryz.prog wp22:=(known21.or (known20.or (known19.or (known18.or Jn))))
theorem run22:okEq (aRun Tryz.prog wp22 400 40 159 wa22 W.hp37) wv22 W.hp38=true:=
 (Qo W.hp37.bs fun m=>okEq (aRun Tryz.prog wp22 400 40 159 wa22 ⟨m,W.hp37.nv⟩) wv22 W.hp38).symm.trans (by kernel_rfl)
theorem known22:Qc FF Tryz.prog (tabPr 159 wa22 W.hp37 wv22 W.hp38):=Qc.tab (Qt Qk wp22_ok 400 40) (Qw run22)
noncomputable def wp23:Prims:=pr2
theorem wp23_ok:Qc FF Tryz.prog wp23:=Jn
theorem run23:okEq (aRun Tryz.prog wp23 400 40 149 wa23 W.hp39) wv23 W.hp40=true:=
 (Qo W.hp39.bs fun m=>okEq (aRun Tryz.prog wp23 400 40 149 wa23 ⟨m,W.hp39.nv⟩) wv23 W.hp40).symm.trans (by kernel_rfl)
theorem known23:Qc FF Tryz.prog (tabPr 149 wa23 W.hp39 wv23 W.hp40):=Qc.tab (Qt Qk wp23_ok 400 40) (Qw run23)
noncomputable def wp24:Prims:=pr2
theorem wp24_ok:Qc FF Tryz.prog wp24:=Jn
theorem run24:okEq (aRun Tryz.prog wp24 400 40 149 wa24 W.hp41) wv24 W.hp42=true:=
 (Qo W.hp41.bs fun m=>okEq (aRun Tryz.prog wp24 400 40 149 wa24 ⟨m,W.hp41.nv⟩) wv24 W.hp42).symm.trans (by kernel_rfl)
theorem known24:Qc FF Tryz.prog (tabPr 149 wa24 W.hp41 wv24 W.hp42):=Qc.tab (Qt Qk wp24_ok 400 40) (Qw run24)
noncomputable def wp25:Prims:=pr2
theorem wp25_ok:Qc FF Tryz.prog wp25:=Jn
theorem run25:okEq (aRun Tryz.prog wp25 400 40 234 wa25 W.hp43) wv25 W.hp44=true:=
 (Qo W.hp43.bs fun m=>okEq (aRun Tryz.prog wp25 400 40 234 wa25 ⟨m,W.hp43.nv⟩) wv25 W.hp44).symm.trans (by kernel_rfl)
theorem known25:Qc FF Tryz.prog (tabPr 234 wa25 W.hp43 wv25 W.hp44):=Qc.tab (Qt Qk wp25_ok 400 40) (Qw run25)
noncomputable def wp26:Prims:=pr2
theorem wp26_ok:Qc FF Tryz.prog wp26:=Jn
theorem run26:okEq (aRun Tryz.prog wp26 400 40 232 wa26 W.hp44) wv26 W.hp45=true:=
 (Qo W.hp44.bs fun m=>okEq (aRun Tryz.prog wp26 400 40 232 wa26 ⟨m,W.hp44.nv⟩) wv26 W.hp45).symm.trans (by kernel_rfl)
theorem known26:Qc FF Tryz.prog (tabPr 232 wa26 W.hp44 wv26 W.hp45):=Qc.tab (Qt Qk wp26_ok 400 40) (Qw run26)
end Go.Proofs.YthekdeikodppkaaGreatDoor
