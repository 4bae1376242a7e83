/-
  Texts of this claim, one behind the other: sledgelaw32.Awake.
-/
import Derived.Test.YthekdeikodppkaaGreatDoorKb25
set_option linter.unusedVariables false
namespace Go.Proofs.YthekdeikodppkaaGreatDoor
open Go.RowKit
noncomputable def wp3:Prims:=pr2
theorem wp3_ok:Qc FF Tryz.prog wp3:=Jn
theorem run3:okEq (aRun Tryz.prog wp3 400 40 231 wa3 W.hp5) wv3 W.hp6=true:=
 (Qo W.hp5.bs fun m=>okEq (aRun Tryz.prog wp3 400 40 231 wa3 ⟨m,W.hp5.nv⟩) wv3 W.hp6).symm.trans (by kernel_rfl)
theorem known3:Qc FF Tryz.prog (tabPr 231 wa3 W.hp5 wv3 W.hp6):=Qc.tab (Qt Qk wp3_ok 400 40) (Qw run3)
noncomputable def wp4:Prims:=pr2
theorem wp4_ok:Qc FF Tryz.prog wp4:=Jn
theorem run4:okEq (aRun Tryz.prog wp4 400 40 232 wa4 W.hp6) wv4 W.hp7=true:=
 (Qo W.hp6.bs fun m=>okEq (aRun Tryz.prog wp4 400 40 232 wa4 ⟨m,W.hp6.nv⟩) wv4 W.hp7).symm.trans (by kernel_rfl)
theorem known4:Qc FF Tryz.prog (tabPr 232 wa4 W.hp6 wv4 W.hp7):=Qc.tab (Qt Qk wp4_ok 400 40) (Qw run4)
noncomputable def wp5:Prims:=orPr (tabPr 232 wa4 W.hp6 wv4 W.hp7) (orPr (tabPr 231 wa3 W.hp5 wv3 W.hp6) pr2)
theorem wp5_ok:Qc FF Tryz.prog wp5:=(known4.or (known3.or Jn))
theorem run5:okEq (aRun Tryz.prog wp5 400 40 159 wa5 W.hp8) wv5 W.hp9=true:=
 (Qo W.hp8.bs fun m=>okEq (aRun Tryz.prog wp5 400 40 159 wa5 ⟨m,W.hp8.nv⟩) wv5 W.hp9).symm.trans (by kernel_rfl)
theorem known5:Qc FF Tryz.prog (tabPr 159 wa5 W.hp8 wv5 W.hp9):=Qc.tab (Qt Qk wp5_ok 400 40) (Qw run5)
noncomputable def wp6:Prims:=pr2
theorem wp6_ok:Qc FF Tryz.prog wp6:=Jn
theorem run6:okEq (aRun Tryz.prog wp6 400 40 231 wa6 W.hp10) wv6 W.hp11=true:=
 (Qo W.hp10.bs fun m=>okEq (aRun Tryz.prog wp6 400 40 231 wa6 ⟨m,W.hp10.nv⟩) wv6 W.hp11).symm.trans (by kernel_rfl)
theorem known6:Qc FF Tryz.prog (tabPr 231 wa6 W.hp10 wv6 W.hp11):=Qc.tab (Qt Qk wp6_ok 400 40) (Qw run6)
noncomputable def wp7:Prims:=pr2
theorem wp7_ok:Qc FF Tryz.prog wp7:=Jn
theorem run7:okEq (aRun Tryz.prog wp7 400 40 232 wa7 W.hp11) wv7 W.hp12=true:=
 (Qo W.hp11.bs fun m=>okEq (aRun Tryz.prog wp7 400 40 232 wa7 ⟨m,W.hp11.nv⟩) wv7 W.hp12).symm.trans (by kernel_rfl)
theorem known7:Qc FF Tryz.prog (tabPr 232 wa7 W.hp11 wv7 W.hp12):=Qc.tab (Qt Qk wp7_ok 400 40) (Qw run7)
noncomputable def wp8:Prims:=orPr (tabPr 232 wa7 W.hp11 wv7 W.hp12) (orPr (tabPr 231 wa6 W.hp10 wv6 W.hp11) pr2)
theorem wp8_ok:Qc FF Tryz.prog wp8:=(known7.or (known6.or Jn))
theorem run8:okEq (aRun Tryz.prog wp8 400 40 159 wa8 W.hp13) wv8 W.hp14=true:=
 (Qo W.hp13.bs fun m=>okEq (aRun Tryz.prog wp8 400 40 159 wa8 ⟨m,W.hp13.nv⟩) wv8 W.hp14).symm.trans (by kernel_rfl)
theorem known8:Qc FF Tryz.prog (tabPr 159 wa8 W.hp13 wv8 W.hp14):=Qc.tab (Qt Qk wp8_ok 400 40) (Qw run8)
end Go.Proofs.YthekdeikodppkaaGreatDoor
