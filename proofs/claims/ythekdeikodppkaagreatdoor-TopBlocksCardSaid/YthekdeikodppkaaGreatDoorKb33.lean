/-
  Texts of this claim, one behind the other: sledgelaw32.Awake.
-/
import Derived.Test.YthekdeikodppkaaGreatDoorKb32
set_option linter.unusedVariables false
namespace Go.Proofs.YthekdeikodppkaaGreatDoor
open Go.RowKit
noncomputable def wp32:Prims:=pr2
theorem wp32_ok:Qc FF Tryz.prog wp32:=Jn
theorem run32:okEq (aRun Tryz.prog wp32 400 40 25 wa32 W.hp51) wv32 W.hp52=true:=
 (Qo W.hp51.bs fun m=>okEq (aRun Tryz.prog wp32 400 40 25 wa32 ⟨m,W.hp51.nv⟩) wv32 W.hp52).symm.trans (by kernel_rfl)
theorem known32:Qc FF Tryz.prog (tabPr 25 wa32 W.hp51 wv32 W.hp52):=Qc.tab (Qt Qk wp32_ok 400 40) (Qw run32)
noncomputable def wp33:Prims:=pr2
theorem wp33_ok:Qc FF Tryz.prog wp33:=Jn
theorem run33:okEq (aRun Tryz.prog wp33 400 40 25 wa33 W.hp52) wv33 W.hp53=true:=
 (Qo W.hp52.bs fun m=>okEq (aRun Tryz.prog wp33 400 40 25 wa33 ⟨m,W.hp52.nv⟩) wv33 W.hp53).symm.trans (by kernel_rfl)
theorem known33:Qc FF Tryz.prog (tabPr 25 wa33 W.hp52 wv33 W.hp53):=Qc.tab (Qt Qk wp33_ok 400 40) (Qw run33)
noncomputable def wp34:Prims:=pr2
theorem wp34_ok:Qc FF Tryz.prog wp34:=Jn
theorem run34:okEq (aRun Tryz.prog wp34 400 40 27 wa34 W.hp53) wv34 W.hp54=true:=
 (Qo W.hp53.bs fun m=>okEq (aRun Tryz.prog wp34 400 40 27 wa34 ⟨m,W.hp53.nv⟩) wv34 W.hp54).symm.trans (by kernel_rfl)
theorem known34:Qc FF Tryz.prog (tabPr 27 wa34 W.hp53 wv34 W.hp54):=Qc.tab (Qt Qk wp34_ok 400 40) (Qw run34)
noncomputable def wp35:Prims:=pr2
theorem wp35_ok:Qc FF Tryz.prog wp35:=Jn
theorem run35:okEq (aRun Tryz.prog wp35 400 40 29 wa35 W.hp54) wv35 W.hp55=true:=
 (Qo W.hp54.bs fun m=>okEq (aRun Tryz.prog wp35 400 40 29 wa35 ⟨m,W.hp54.nv⟩) wv35 W.hp55).symm.trans (by kernel_rfl)
theorem known35:Qc FF Tryz.prog (tabPr 29 wa35 W.hp54 wv35 W.hp55):=Qc.tab (Qt Qk wp35_ok 400 40) (Qw run35)
noncomputable def wp36:Prims:=orPr (tabPr 29 wa35 W.hp54 wv35 W.hp55) (orPr (tabPr 27 wa34 W.hp53 wv34 W.hp54) (orPr (tabPr 25 wa33 W.hp52 wv33 W.hp53) (orPr (tabPr 25 wa32 W.hp51 wv32 W.hp52) (orPr (tabPr 25 wa31 W.hp20 wv31 W.hp51) (orPr (tabPr 25 wa12 W.hp19 wv12 W.hp20) (orPr (tabPr 25 wa11 W.hp4 wv11 W.hp19) (orPr (tabPr 25 wa2 W.hp3 wv2 W.hp4) (orPr (tabPr 25 wa1 W.hp2 wv1 W.hp3) (orPr (tabPr 23 wa0 W.hp0 wv0 W.hp1) pr2)))))))))
theorem wp36_ok:Qc FF Tryz.prog wp36:=(known35.or (known34.or (known33.or (known32.or (known31.or (known12.or (known11.or (known2.or (known1.or (known0.or Jn))))))))))
theorem run36:okEq (aRun Tryz.prog wp36 400 40 7 wa36 W.hp56) wv36 W.hp57=true:=
 (Qo W.hp56.bs fun m=>okEq (aRun Tryz.prog wp36 400 40 7 wa36 ⟨m,W.hp56.nv⟩) wv36 W.hp57).symm.trans (by kernel_rfl)
end Go.Proofs.YthekdeikodppkaaGreatDoor
