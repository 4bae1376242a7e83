/-
  No cell of these rows narrows 'for every input' (looked for: loops, veiled, ifaces, maps, wideKeys, modest, calm, conditions, laid).
  DERIVED. THE GIVEN ROWS OF THIS SEAT. 4 by the template 'for every input the law returns true; each argument reads behind the call as it read before'; 0 by the template 'total and deterministic' (their statements: YtpbodonmiepilaaTotals.lean).
  GIVEN WITH THE SEED: the statements are not yours to turn. If you find one false, say at which input.
  Laid BY PROGRAM, IN A SANDBOX (cutbox-rows.mjs): the forced cells as the released guide's own fill.sh prints them over the translation 49793426e8039d2c… (all of the seat's roots in one cut). By AI agents, Wed Nov 11 2026. No macro, syntax, notation, axiom, sorry.
-/
import Derived.Test.YtpbodonmiepilaaChecked
import GoSem.Claim
import GoSem.ClaimJoined
import GoSem.ClaimMapViews
import Derived.JoinedTies
import Derived.KernelRfl
namespace Go.Proofs.Ytpbodonmiepilaa
/- THE CELL 'sum', in the pinned program and in every row, IS THE sha256 OF THE DUMP (.gsa) THAT YtpbodonmiepilaaProg.lean LOADS. Nothing in Lean hashes anything: it is a label: what it is worth is what the hold of that sum in a sandbox is worth. -/
noncomputable def Try.pinned : Pinned := { name := "ytpbodonmiepilaa", sum := "49793426e8039d2ce6893bebe04362793374faee63f3188110c0d5f57d7d70ce", checked := Try.checked }
namespace Rows
def none {H : Type} : Left H := { results := [], args := [] }

/-- 'sledgelaw47.SplitCuts': WHATEVER THE INPUT: true; the input reads as it did. -/
def splitCutsSpec : ChangeSpec := { name := "splitCuts", fn := fun _ => fun
  | [d] => { results := [.lit (.bool true)], args := [d] }
  | _ => none }
def splitCutsRow : OpenClaim := { program := "ytpbodonmiepilaa", sum := "49793426e8039d2ce6893bebe04362793374faee63f3188110c0d5f57d7d70ce", func := "sledge/sledgelaw47.SplitCuts", spec := "splitCuts", plainKeys := false, apart := false }
def SplitCutsSaid : Prop := splitCutsRow.holds Try.pinned (OpenSpec.ofChange splitCutsSpec)

/-- ITS FALSE NEIGHBOUR: 'it returns false'. Refute it at one input. -/
def splitCutsWrong : ChangeSpec := { name := "splitCuts", fn := fun _ => fun
  | [d] => { results := [.lit (.bool false)], args := [d] }
  | _ => none }
def SplitCutsWrongFalsely : Prop := splitCutsRow.holds Try.pinned (OpenSpec.ofChange splitCutsWrong)

/-- 'sledgelaw47.SplitLeast': WHATEVER THE INPUT: true; the input reads as it did. -/
def splitLeastSpec : ChangeSpec := { name := "splitLeast", fn := fun _ => fun
  | [d1, d2, d3] => { results := [.lit (.bool true)], args := [d1, d2, d3] }
  | _ => none }
def splitLeastRow : OpenClaim := { program := "ytpbodonmiepilaa", sum := "49793426e8039d2ce6893bebe04362793374faee63f3188110c0d5f57d7d70ce", func := "sledge/sledgelaw47.SplitLeast", spec := "splitLeast", unfollowed := true, recurses := true, plainKeys := false, apart := false }
def SplitLeastSaid : Prop := splitLeastRow.holds Try.pinned (OpenSpec.ofChange splitLeastSpec)

/-- ITS FALSE NEIGHBOUR: 'it returns false'. Refute it at one input. -/
def splitLeastWrong : ChangeSpec := { name := "splitLeast", fn := fun _ => fun
  | [d1, d2, d3] => { results := [.lit (.bool false)], args := [d1, d2, d3] }
  | _ => none }
def SplitLeastWrongFalsely : Prop := splitLeastRow.holds Try.pinned (OpenSpec.ofChange splitLeastWrong)

/-- 'sledgelaw47.SplitWith': WHATEVER THE INPUT: true; the input reads as it did. -/
def splitWithSpec : ChangeSpec := { name := "splitWith", fn := fun _ => fun
  | [d1, d2, d3] => { results := [.lit (.bool true)], args := [d1, d2, d3] }
  | _ => none }
def splitWithRow : OpenClaim := { program := "ytpbodonmiepilaa", sum := "49793426e8039d2ce6893bebe04362793374faee63f3188110c0d5f57d7d70ce", func := "sledge/sledgelaw47.SplitWith", spec := "splitWith", unfollowed := true, recurses := true, plainKeys := false, apart := false }
def SplitWithSaid : Prop := splitWithRow.holds Try.pinned (OpenSpec.ofChange splitWithSpec)

/-- ITS FALSE NEIGHBOUR: 'it returns false'. Refute it at one input. -/
def splitWithWrong : ChangeSpec := { name := "splitWith", fn := fun _ => fun
  | [d1, d2, d3] => { results := [.lit (.bool false)], args := [d1, d2, d3] }
  | _ => none }
def SplitWithWrongFalsely : Prop := splitWithRow.holds Try.pinned (OpenSpec.ofChange splitWithWrong)

/-- 'sledgelaw47.SplitBack': WHATEVER THE INPUT: true; the input reads as it did. -/
def splitBackSpec : ChangeSpec := { name := "splitBack", fn := fun _ => fun
  | [d] => { results := [.lit (.bool true)], args := [d] }
  | _ => none }
def splitBackRow : OpenClaim := { program := "ytpbodonmiepilaa", sum := "49793426e8039d2ce6893bebe04362793374faee63f3188110c0d5f57d7d70ce", func := "sledge/sledgelaw47.SplitBack", spec := "splitBack", unfollowed := true, recurses := true, plainKeys := false, apart := false }
def SplitBackSaid : Prop := splitBackRow.holds Try.pinned (OpenSpec.ofChange splitBackSpec)

/-- ITS FALSE NEIGHBOUR: 'it returns false'. Refute it at one input. -/
def splitBackWrong : ChangeSpec := { name := "splitBack", fn := fun _ => fun
  | [d] => { results := [.lit (.bool false)], args := [d] }
  | _ => none }
def SplitBackWrongFalsely : Prop := splitBackRow.holds Try.pinned (OpenSpec.ofChange splitBackWrong)

/- THE SECOND FORM. 'bulk': how many values and letters a reading holds, each counted each time it is reached (what is shared counts as often as it is met; a slice's spare places count too). A statement '..UptoSaid' is the law's where the arguments, and the package variables that the reading takes, are together of bulk at most 1048576: NARROWER than '..Said'. Prove '..Said' where nothing that the law and all that it calls make is longer than what came in: it says more and counts as full. Else prove '..UptoSaid'. A law counts once. -/
mutual
def uptoBulk {H : Type} : DataW H → Nat
  | .lit (.string bytes) => bytes.length + 1
  | .lit _ => 1
  | .nil => 1
  | .ptr d => uptoBulk d + 1
  | .slice elems spare => uptoBulkAll elems + uptoBulkAll spare + 1
  | .agg parts => uptoBulkAll parts + 1
  | .iface _ d => uptoBulk d + 1
  | .map entries => uptoBulkEntries entries + 1
  | .held _ => 1
def uptoBulkAll {H : Type} : List (DataW H) → Nat
  | [] => 0
  | d :: r => uptoBulk d + uptoBulkAll r
def uptoBulkEntries {H : Type} : List (Lit × DataW H) → Nat
  | [] => 0
  | x :: r => uptoBulkEntry x + uptoBulkEntries r
def uptoBulkEntry {H : Type} : Lit × DataW H → Nat
  | (.string bytes, d) => bytes.length + uptoBulk d + 1
  | (_, d) => uptoBulk d + 1
 end
def uptoSmall : (H : Type) → List (DataW H) → Bool := fun _ ds => decide (uptoBulkAll ds ≤ 1048576)
def OpenSpec.upto (s : _root_.Go.ChangeSpec) : _root_.Go.OpenSpec := { _root_.Go.OpenSpec.ofChange s with cond := some uptoSmall }

/-- 'sledgelaw47.SplitCuts', WHERE WHAT IT READS IS OF BULK AT MOST 1048576: true; the input reads as it did. -/
def splitCutsUptoRow : OpenClaim := { program := "ytpbodonmiepilaa", sum := "49793426e8039d2ce6893bebe04362793374faee63f3188110c0d5f57d7d70ce", func := "sledge/sledgelaw47.SplitCuts", spec := "splitCuts", plainKeys := false, apart := false, narrowed := true }
def SplitCutsUptoSaid : Prop := splitCutsUptoRow.holds Try.pinned (OpenSpec.upto splitCutsSpec)

/-- 'sledgelaw47.SplitLeast', WHERE WHAT IT READS IS OF BULK AT MOST 1048576: true; the input reads as it did. -/
def splitLeastUptoRow : OpenClaim := { program := "ytpbodonmiepilaa", sum := "49793426e8039d2ce6893bebe04362793374faee63f3188110c0d5f57d7d70ce", func := "sledge/sledgelaw47.SplitLeast", spec := "splitLeast", unfollowed := true, recurses := true, plainKeys := false, apart := false, narrowed := true }
def SplitLeastUptoSaid : Prop := splitLeastUptoRow.holds Try.pinned (OpenSpec.upto splitLeastSpec)

/-- 'sledgelaw47.SplitWith', WHERE WHAT IT READS IS OF BULK AT MOST 1048576: true; the input reads as it did. -/
def splitWithUptoRow : OpenClaim := { program := "ytpbodonmiepilaa", sum := "49793426e8039d2ce6893bebe04362793374faee63f3188110c0d5f57d7d70ce", func := "sledge/sledgelaw47.SplitWith", spec := "splitWith", unfollowed := true, recurses := true, plainKeys := false, apart := false, narrowed := true }
def SplitWithUptoSaid : Prop := splitWithUptoRow.holds Try.pinned (OpenSpec.upto splitWithSpec)

/-- 'sledgelaw47.SplitBack', WHERE WHAT IT READS IS OF BULK AT MOST 1048576: true; the input reads as it did. -/
def splitBackUptoRow : OpenClaim := { program := "ytpbodonmiepilaa", sum := "49793426e8039d2ce6893bebe04362793374faee63f3188110c0d5f57d7d70ce", func := "sledge/sledgelaw47.SplitBack", spec := "splitBack", unfollowed := true, recurses := true, plainKeys := false, apart := false, narrowed := true }
def SplitBackUptoSaid : Prop := splitBackUptoRow.holds Try.pinned (OpenSpec.upto splitBackSpec)

end Rows
end Go.Proofs.Ytpbodonmiepilaa
