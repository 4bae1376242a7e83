/-
  Texts of this claim, one behind the other: The facts that the statement and its card ask of the program, each reckoned by itself.
-/
import Derived.Test.YthekdeikodppkaaGreatDoorKb34
import Derived.Test.YthekdeikodppkaaGreatDoorRows
import Derived.Test.YthekdeikodppkaaGreatDoorTie
import Derived.Test.YthekdeikodppkaaGreatDoorCards
import Derived.JoinedOf
import Derived.WalkKit
import Derived.SevenTiedAt
set_option linter.unusedVariables false
namespace Go.Proofs.YthekdeikodppkaaGreatDoor.topBlocks
theorem fact2:laidOutB Tryz.pinned.checked.prog=true:=by kernel_rfl
theorem fact3:mapsRowed Tryz.pinned.checked.prog=true:=by kernel_rfl
theorem fact10:(Rows.topBlocksRow.inPlace==Tryz.pinned.checked.prog.inPlace 3)=true:=by kernel_rfl
theorem fact11:(Rows.topBlocksRow.unfollowed==Tryz.pinned.checked.prog.unfollowed 3)=true:=by kernel_rfl
theorem fact12:(Rows.topBlocksRow.recurses==Tryz.pinned.checked.prog.recurses 3)=true:=by kernel_rfl
theorem fact13:(Rows.topBlocksRow.named==Tryz.pinned.checked.prog.varsNamed 3)=true:=by kernel_rfl
theorem fact22:(Rows.topBlocksRow.plainKeys==Tryz.pinned.checked.prog.plainKeys)=true:=by kernel_rfl
theorem fact23b:Tryz.pinned.checked.prog.stopsHeard=true:=by kernel_rfl
theorem fact24:Tryz.pinned.checked.prog.mayEnter=true:=by kernel_rfl
theorem fact24b:(Rows.topBlocksRow.lifted==Tryz.pinned.checked.prog.liftsFinal)=true:=by kernel_rfl
theorem fact24c:(Tryz.pinned.checked.prog.make==some Rows.topBlocksRow.make)=true:=by kernel_rfl
theorem factName:Tryz.prog.funcNamed "sledge/sledgetop.TopBlocks" = some 3:=by kernel_rfl
theorem factMain:Tryz.pinned.checked.prog.mainIs=some (Rows.topBlocksCard.stood.harness.1,Rows.topBlocksCard.stood.harness.2.toList):=by kernel_rfl
theorem factGoes:false=Rows.topBlocksRow.goesBy Tryz.pinned.checked.prog:=by kernel_rfl
theorem factLooks:false=Tryz.pinned.checked.prog.looks []:=by kernel_rfl
theorem factWf:Rows.topBlocksRow.wfByText (OpenSpec.ofChange Rows.topBlocksSpec)=true:=by kernel_rfl
theorem band{a b:Bool}(ha:a=true)(hb:b=true):(a&&b)=true:=by rw [ha,hb];rfl
theorem facts:joinedFacts Tryz.pinned.checked.prog 3 Tryz.f3 Rows.topBlocksSpec Rows.topBlocksRow=true:=by
 unfold joinedFacts
 refine (band (band (band (band (band (band (band (band (band (band (band (band (band (band (band (band (band (band (band (band (band (band (band (band (band (band (band (band (band (band (band ?_ fact2) fact3) ?_) ?_) ?_) ?_) ?_) ?_) fact10) fact11) fact12) fact13) ?_) ?_) ?_) ?_) ?_) ?_) ?_) ?_) ?_) fact22) ?_) fact23b) fact24) fact24b) fact24c) ?_) ?_) ?_) ?_)
 all_goals kernel_rfl
#print axioms facts
end Go.Proofs.YthekdeikodppkaaGreatDoor.topBlocks
