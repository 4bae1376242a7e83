/-
  No cell of these rows narrows 'for every input' (looked for: loops, veiled, ifaces, maps, wideKeys, modest, calm, conditions, laid).
  DERIVED. THE GIVEN ROWS OF THIS SEAT. 7 by the template 'for every input the law returns true; each argument reads behind the call as it read before'; 0 by the template 'total and deterministic' (their statements: YtfeamlbkogigkaaTotals.lean).
  GIVEN WITH THE SEED: the statements are not yours to turn. If you find one false, say at which input.
  Laid BY PROGRAM, IN A SANDBOX (cutbox-rows.mjs): the forced cells as the released guide's own fill.sh prints them over the translation b6a18a49a30ca5b1… (all of the seat's roots in one cut). By AI agents, Wed Nov 11 2026. No macro, syntax, notation, axiom, sorry.
-/
import Derived.Test.YtfeamlbkogigkaaChecked
import GoSem.Claim
import GoSem.ClaimJoined
import GoSem.ClaimMapViews
import Derived.JoinedTies
import Derived.KernelRfl
namespace Go.Proofs.Ytfeamlbkogigkaa
/- THE CELL 'sum', in the pinned program and in every row, IS THE sha256 OF THE DUMP (.gsa) THAT YtfeamlbkogigkaaProg.lean LOADS. Nothing in Lean hashes anything: it is a label: what it is worth is what the hold of that sum in a sandbox is worth. -/
noncomputable def Try.pinned : Pinned := { name := "ytfeamlbkogigkaa", sum := "b6a18a49a30ca5b17a54d4a802c8f64688a21d914844def1a239ac2be4157ccd", checked := Try.checked }
namespace Rows
def none {H : Type} : Left H := { results := [], args := [] }

/-- 'sledgelaw07.HuffLengths': WHATEVER THE INPUT: true; the input reads as it did. -/
def huffLengthsSpec : ChangeSpec := { name := "huffLengths", fn := fun _ => fun
  | [d1, d2] => { results := [.lit (.bool true)], args := [d1, d2] }
  | _ => none }
def huffLengthsRow : OpenClaim := { program := "ytfeamlbkogigkaa", sum := "b6a18a49a30ca5b17a54d4a802c8f64688a21d914844def1a239ac2be4157ccd", func := "sledge/sledgelaw07.HuffLengths", spec := "huffLengths", unfollowed := true, recurses := true, apart := false }
def HuffLengthsSaid : Prop := huffLengthsRow.holds Try.pinned (OpenSpec.ofChange huffLengthsSpec)

/-- ITS FALSE NEIGHBOUR: 'it returns false'. Refute it at one input. -/
def huffLengthsWrong : ChangeSpec := { name := "huffLengths", fn := fun _ => fun
  | [d1, d2] => { results := [.lit (.bool false)], args := [d1, d2] }
  | _ => none }
def HuffLengthsWrongFalsely : Prop := huffLengthsRow.holds Try.pinned (OpenSpec.ofChange huffLengthsWrong)

/-- 'sledgelaw07.HuffLeast': WHATEVER THE INPUT: true; the input reads as it did. -/
def huffLeastSpec : ChangeSpec := { name := "huffLeast", fn := fun _ => fun
  | [d1, d2, d3] => { results := [.lit (.bool true)], args := [d1, d2, d3] }
  | _ => none }
def huffLeastRow : OpenClaim := { program := "ytfeamlbkogigkaa", sum := "b6a18a49a30ca5b17a54d4a802c8f64688a21d914844def1a239ac2be4157ccd", func := "sledge/sledgelaw07.HuffLeast", spec := "huffLeast", unfollowed := true, recurses := true, apart := false }
def HuffLeastSaid : Prop := huffLeastRow.holds Try.pinned (OpenSpec.ofChange huffLeastSpec)

/-- ITS FALSE NEIGHBOUR: 'it returns false'. Refute it at one input. -/
def huffLeastWrong : ChangeSpec := { name := "huffLeast", fn := fun _ => fun
  | [d1, d2, d3] => { results := [.lit (.bool false)], args := [d1, d2, d3] }
  | _ => none }
def HuffLeastWrongFalsely : Prop := huffLeastRow.holds Try.pinned (OpenSpec.ofChange huffLeastWrong)

/-- 'sledgelaw07.HuffCodes': WHATEVER THE INPUT: true; the input reads as it did. -/
def huffCodesSpec : ChangeSpec := { name := "huffCodes", fn := fun _ => fun
  | [d] => { results := [.lit (.bool true)], args := [d] }
  | _ => none }
def huffCodesRow : OpenClaim := { program := "ytfeamlbkogigkaa", sum := "b6a18a49a30ca5b17a54d4a802c8f64688a21d914844def1a239ac2be4157ccd", func := "sledge/sledgelaw07.HuffCodes", spec := "huffCodes", unfollowed := true, recurses := true, apart := false }
def HuffCodesSaid : Prop := huffCodesRow.holds Try.pinned (OpenSpec.ofChange huffCodesSpec)

/-- ITS FALSE NEIGHBOUR: 'it returns false'. Refute it at one input. -/
def huffCodesWrong : ChangeSpec := { name := "huffCodes", fn := fun _ => fun
  | [d] => { results := [.lit (.bool false)], args := [d] }
  | _ => none }
def HuffCodesWrongFalsely : Prop := huffCodesRow.holds Try.pinned (OpenSpec.ofChange huffCodesWrong)

/-- 'sledgelaw07.HuffPrefix': WHATEVER THE INPUT: true; the input reads as it did. -/
def huffPrefixSpec : ChangeSpec := { name := "huffPrefix", fn := fun _ => fun
  | [d1, d2, d3] => { results := [.lit (.bool true)], args := [d1, d2, d3] }
  | _ => none }
def huffPrefixRow : OpenClaim := { program := "ytfeamlbkogigkaa", sum := "b6a18a49a30ca5b17a54d4a802c8f64688a21d914844def1a239ac2be4157ccd", func := "sledge/sledgelaw07.HuffPrefix", spec := "huffPrefix", unfollowed := true, recurses := true, apart := false }
def HuffPrefixSaid : Prop := huffPrefixRow.holds Try.pinned (OpenSpec.ofChange huffPrefixSpec)

/-- ITS FALSE NEIGHBOUR: 'it returns false'. Refute it at one input. -/
def huffPrefixWrong : ChangeSpec := { name := "huffPrefix", fn := fun _ => fun
  | [d1, d2, d3] => { results := [.lit (.bool false)], args := [d1, d2, d3] }
  | _ => none }
def HuffPrefixWrongFalsely : Prop := huffPrefixRow.holds Try.pinned (OpenSpec.ofChange huffPrefixWrong)

/-- 'sledgelaw07.HuffTables': WHATEVER THE INPUT: true; the input reads as it did. -/
def huffTablesSpec : ChangeSpec := { name := "huffTables", fn := fun _ => fun
  | [d] => { results := [.lit (.bool true)], args := [d] }
  | _ => none }
def huffTablesRow : OpenClaim := { program := "ytfeamlbkogigkaa", sum := "b6a18a49a30ca5b17a54d4a802c8f64688a21d914844def1a239ac2be4157ccd", func := "sledge/sledgelaw07.HuffTables", spec := "huffTables", unfollowed := true, recurses := true, apart := false }
def HuffTablesSaid : Prop := huffTablesRow.holds Try.pinned (OpenSpec.ofChange huffTablesSpec)

/-- ITS FALSE NEIGHBOUR: 'it returns false'. Refute it at one input. -/
def huffTablesWrong : ChangeSpec := { name := "huffTables", fn := fun _ => fun
  | [d] => { results := [.lit (.bool false)], args := [d] }
  | _ => none }
def HuffTablesWrongFalsely : Prop := huffTablesRow.holds Try.pinned (OpenSpec.ofChange huffTablesWrong)

/-- 'sledgelaw07.HuffDecodes': WHATEVER THE INPUT: true; the input reads as it did. -/
def huffDecodesSpec : ChangeSpec := { name := "huffDecodes", fn := fun _ => fun
  | [d1, d2] => { results := [.lit (.bool true)], args := [d1, d2] }
  | _ => none }
def huffDecodesRow : OpenClaim := { program := "ytfeamlbkogigkaa", sum := "b6a18a49a30ca5b17a54d4a802c8f64688a21d914844def1a239ac2be4157ccd", func := "sledge/sledgelaw07.HuffDecodes", spec := "huffDecodes", unfollowed := true, recurses := true, apart := false }
def HuffDecodesSaid : Prop := huffDecodesRow.holds Try.pinned (OpenSpec.ofChange huffDecodesSpec)

/-- ITS FALSE NEIGHBOUR: 'it returns false'. Refute it at one input. -/
def huffDecodesWrong : ChangeSpec := { name := "huffDecodes", fn := fun _ => fun
  | [d1, d2] => { results := [.lit (.bool false)], args := [d1, d2] }
  | _ => none }
def HuffDecodesWrongFalsely : Prop := huffDecodesRow.holds Try.pinned (OpenSpec.ofChange huffDecodesWrong)

/-- 'sledgelaw07.HuffBack': WHATEVER THE INPUT: true; the input reads as it did. -/
def huffBackSpec : ChangeSpec := { name := "huffBack", fn := fun _ => fun
  | [d1, d2, d3] => { results := [.lit (.bool true)], args := [d1, d2, d3] }
  | _ => none }
def huffBackRow : OpenClaim := { program := "ytfeamlbkogigkaa", sum := "b6a18a49a30ca5b17a54d4a802c8f64688a21d914844def1a239ac2be4157ccd", func := "sledge/sledgelaw07.HuffBack", spec := "huffBack", unfollowed := true, recurses := true, apart := false }
def HuffBackSaid : Prop := huffBackRow.holds Try.pinned (OpenSpec.ofChange huffBackSpec)

/-- ITS FALSE NEIGHBOUR: 'it returns false'. Refute it at one input. -/
def huffBackWrong : ChangeSpec := { name := "huffBack", fn := fun _ => fun
  | [d1, d2, d3] => { results := [.lit (.bool false)], args := [d1, d2, d3] }
  | _ => none }
def HuffBackWrongFalsely : Prop := huffBackRow.holds Try.pinned (OpenSpec.ofChange huffBackWrong)

/- THE SECOND FORM. 'bulk': how many values and letters a reading holds, each counted each time it is reached (what is shared counts as often as it is met; a slice's spare places count too). A statement '..UptoSaid' is the law's where the arguments, and the package variables that the reading takes, are together of bulk at most 1048576: NARROWER than '..Said'. Prove '..Said' where nothing that the law and all that it calls make is longer than what came in: it says more and counts as full. Else prove '..UptoSaid'. A law counts once. -/
mutual
def uptoBulk {H : Type} : DataW H → Nat
  | .lit (.string bytes) => bytes.length + 1
  | .lit _ => 1
  | .nil => 1
  | .ptr d => uptoBulk d + 1
  | .slice elems spare => uptoBulkAll elems + uptoBulkAll spare + 1
  | .agg parts => uptoBulkAll parts + 1
  | .iface _ d => uptoBulk d + 1
  | .map entries => uptoBulkEntries entries + 1
  | .held _ => 1
def uptoBulkAll {H : Type} : List (DataW H) → Nat
  | [] => 0
  | d :: r => uptoBulk d + uptoBulkAll r
def uptoBulkEntries {H : Type} : List (Lit × DataW H) → Nat
  | [] => 0
  | x :: r => uptoBulkEntry x + uptoBulkEntries r
def uptoBulkEntry {H : Type} : Lit × DataW H → Nat
  | (.string bytes, d) => bytes.length + uptoBulk d + 1
  | (_, d) => uptoBulk d + 1
 end
def uptoSmall : (H : Type) → List (DataW H) → Bool := fun _ ds => decide (uptoBulkAll ds ≤ 1048576)
def OpenSpec.upto (s : _root_.Go.ChangeSpec) : _root_.Go.OpenSpec := { _root_.Go.OpenSpec.ofChange s with cond := some uptoSmall }

/-- 'sledgelaw07.HuffLengths', WHERE WHAT IT READS IS OF BULK AT MOST 1048576: true; the input reads as it did. -/
def huffLengthsUptoRow : OpenClaim := { program := "ytfeamlbkogigkaa", sum := "b6a18a49a30ca5b17a54d4a802c8f64688a21d914844def1a239ac2be4157ccd", func := "sledge/sledgelaw07.HuffLengths", spec := "huffLengths", unfollowed := true, recurses := true, apart := false, narrowed := true }
def HuffLengthsUptoSaid : Prop := huffLengthsUptoRow.holds Try.pinned (OpenSpec.upto huffLengthsSpec)

/-- 'sledgelaw07.HuffLeast', WHERE WHAT IT READS IS OF BULK AT MOST 1048576: true; the input reads as it did. -/
def huffLeastUptoRow : OpenClaim := { program := "ytfeamlbkogigkaa", sum := "b6a18a49a30ca5b17a54d4a802c8f64688a21d914844def1a239ac2be4157ccd", func := "sledge/sledgelaw07.HuffLeast", spec := "huffLeast", unfollowed := true, recurses := true, apart := false, narrowed := true }
def HuffLeastUptoSaid : Prop := huffLeastUptoRow.holds Try.pinned (OpenSpec.upto huffLeastSpec)

/-- 'sledgelaw07.HuffCodes', WHERE WHAT IT READS IS OF BULK AT MOST 1048576: true; the input reads as it did. -/
def huffCodesUptoRow : OpenClaim := { program := "ytfeamlbkogigkaa", sum := "b6a18a49a30ca5b17a54d4a802c8f64688a21d914844def1a239ac2be4157ccd", func := "sledge/sledgelaw07.HuffCodes", spec := "huffCodes", unfollowed := true, recurses := true, apart := false, narrowed := true }
def HuffCodesUptoSaid : Prop := huffCodesUptoRow.holds Try.pinned (OpenSpec.upto huffCodesSpec)

/-- 'sledgelaw07.HuffPrefix', WHERE WHAT IT READS IS OF BULK AT MOST 1048576: true; the input reads as it did. -/
def huffPrefixUptoRow : OpenClaim := { program := "ytfeamlbkogigkaa", sum := "b6a18a49a30ca5b17a54d4a802c8f64688a21d914844def1a239ac2be4157ccd", func := "sledge/sledgelaw07.HuffPrefix", spec := "huffPrefix", unfollowed := true, recurses := true, apart := false, narrowed := true }
def HuffPrefixUptoSaid : Prop := huffPrefixUptoRow.holds Try.pinned (OpenSpec.upto huffPrefixSpec)

/-- 'sledgelaw07.HuffTables', WHERE WHAT IT READS IS OF BULK AT MOST 1048576: true; the input reads as it did. -/
def huffTablesUptoRow : OpenClaim := { program := "ytfeamlbkogigkaa", sum := "b6a18a49a30ca5b17a54d4a802c8f64688a21d914844def1a239ac2be4157ccd", func := "sledge/sledgelaw07.HuffTables", spec := "huffTables", unfollowed := true, recurses := true, apart := false, narrowed := true }
def HuffTablesUptoSaid : Prop := huffTablesUptoRow.holds Try.pinned (OpenSpec.upto huffTablesSpec)

/-- 'sledgelaw07.HuffDecodes', WHERE WHAT IT READS IS OF BULK AT MOST 1048576: true; the input reads as it did. -/
def huffDecodesUptoRow : OpenClaim := { program := "ytfeamlbkogigkaa", sum := "b6a18a49a30ca5b17a54d4a802c8f64688a21d914844def1a239ac2be4157ccd", func := "sledge/sledgelaw07.HuffDecodes", spec := "huffDecodes", unfollowed := true, recurses := true, apart := false, narrowed := true }
def HuffDecodesUptoSaid : Prop := huffDecodesUptoRow.holds Try.pinned (OpenSpec.upto huffDecodesSpec)

/-- 'sledgelaw07.HuffBack', WHERE WHAT IT READS IS OF BULK AT MOST 1048576: true; the input reads as it did. -/
def huffBackUptoRow : OpenClaim := { program := "ytfeamlbkogigkaa", sum := "b6a18a49a30ca5b17a54d4a802c8f64688a21d914844def1a239ac2be4157ccd", func := "sledge/sledgelaw07.HuffBack", spec := "huffBack", unfollowed := true, recurses := true, apart := false, narrowed := true }
def HuffBackUptoSaid : Prop := huffBackUptoRow.holds Try.pinned (OpenSpec.upto huffBackSpec)

end Rows
end Go.Proofs.Ytfeamlbkogigkaa
