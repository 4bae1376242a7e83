/-
  Texts of this claim, one behind the other: sledgelaw32.Awake.
-/
import Derived.Test.YthekdeikodppkaaGreatDoorKb29
set_option linter.unusedVariables false
namespace Go.Proofs.YthekdeikodppkaaGreatDoor
open Go.RowKit
noncomputable def wp15:Prims:=orPr (tabPr 159 wa14 W.hp23 wv14 W.hp24) (orPr (tabPr 159 wa13 W.hp21 wv13 W.hp22) pr2)
theorem wp15_ok:Qc FF Tryz.prog wp15:=(known14.or (known13.or Jn))
theorem run15:okEq (aRun Tryz.prog wp15 400 40 102 wa15 W.hp25) wv15 W.hp26=true:=
 (Qo W.hp25.bs fun m=>okEq (aRun Tryz.prog wp15 400 40 102 wa15 ⟨m,W.hp25.nv⟩) wv15 W.hp26).symm.trans (by kernel_rfl)
theorem known15:Qc FF Tryz.prog (tabPr 102 wa15 W.hp25 wv15 W.hp26):=Qc.tab (Qt Qk wp15_ok 400 40) (Qw run15)
noncomputable def wp16:Prims:=pr2
theorem wp16_ok:Qc FF Tryz.prog wp16:=Jn
theorem run16:okEq (aRun Tryz.prog wp16 400 40 156 wa16 W.hp27) wv16 W.hp28=true:=
 (Qo W.hp27.bs fun m=>okEq (aRun Tryz.prog wp16 400 40 156 wa16 ⟨m,W.hp27.nv⟩) wv16 W.hp28).symm.trans (by kernel_rfl)
theorem known16:Qc FF Tryz.prog (tabPr 156 wa16 W.hp27 wv16 W.hp28):=Qc.tab (Qt Qk wp16_ok 400 40) (Qw run16)
noncomputable def wp17:Prims:=pr2
theorem wp17_ok:Qc FF Tryz.prog wp17:=Jn
theorem run17:okEq (aRun Tryz.prog wp17 400 40 158 wa17 W.hp29) wv17 W.hp29=true:=
 (Qo W.hp29.bs fun m=>okEq (aRun Tryz.prog wp17 400 40 158 wa17 ⟨m,W.hp29.nv⟩) wv17 W.hp29).symm.trans (by kernel_rfl)
theorem known17:Qc FF Tryz.prog (tabPr 158 wa17 W.hp29 wv17 W.hp29):=Qc.tab (Qt Qk wp17_ok 400 40) (Qw run17)
noncomputable def wp18:Prims:=pr2
theorem wp18_ok:Qc FF Tryz.prog wp18:=Jn
theorem run18:okEq (aRun Tryz.prog wp18 400 40 149 wa18 W.hp30) wv18 W.hp31=true:=
 (Qo W.hp30.bs fun m=>okEq (aRun Tryz.prog wp18 400 40 149 wa18 ⟨m,W.hp30.nv⟩) wv18 W.hp31).symm.trans (by kernel_rfl)
theorem known18:Qc FF Tryz.prog (tabPr 149 wa18 W.hp30 wv18 W.hp31):=Qc.tab (Qt Qk wp18_ok 400 40) (Qw run18)
noncomputable def wp19:Prims:=pr2
theorem wp19_ok:Qc FF Tryz.prog wp19:=Jn
theorem run19:okEq (aRun Tryz.prog wp19 400 40 149 wa19 W.hp32) wv19 W.hp33=true:=
 (Qo W.hp32.bs fun m=>okEq (aRun Tryz.prog wp19 400 40 149 wa19 ⟨m,W.hp32.nv⟩) wv19 W.hp33).symm.trans (by kernel_rfl)
theorem known19:Qc FF Tryz.prog (tabPr 149 wa19 W.hp32 wv19 W.hp33):=Qc.tab (Qt Qk wp19_ok 400 40) (Qw run19)
noncomputable def wp20:Prims:=pr2
theorem wp20_ok:Qc FF Tryz.prog wp20:=Jn
theorem run20:okEq (aRun Tryz.prog wp20 400 40 234 wa20 W.hp34) wv20 W.hp35=true:=
 (Qo W.hp34.bs fun m=>okEq (aRun Tryz.prog wp20 400 40 234 wa20 ⟨m,W.hp34.nv⟩) wv20 W.hp35).symm.trans (by kernel_rfl)
theorem known20:Qc FF Tryz.prog (tabPr 234 wa20 W.hp34 wv20 W.hp35):=Qc.tab (Qt Qk wp20_ok 400 40) (Qw run20)
end Go.Proofs.YthekdeikodppkaaGreatDoor
