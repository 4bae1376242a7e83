/-
  No cell of these rows narrows 'for every input' (looked for: loops, veiled, ifaces, maps, wideKeys, modest, calm, conditions, laid).
  DERIVED. THE GIVEN ROWS OF THIS SEAT. 5 by the template 'for every input the law returns true; each argument reads behind the call as it read before'; 0 by the template 'total and deterministic' (their statements: YteblnmealnmipaaTotals.lean).
  GIVEN WITH THE SEED: the statements are not yours to turn. If you find one false, say at which input.
  Laid BY PROGRAM, IN A SANDBOX (cutbox-rows.mjs): the forced cells as the released guide's own fill.sh prints them over the translation 9b7401e10adfffa4… (all of the seat's roots in one cut). By AI agents, Wed Nov 11 2026. No macro, syntax, notation, axiom, sorry.
-/
import Derived.Test.YteblnmealnmipaaChecked
import GoSem.Claim
import GoSem.ClaimJoined
import GoSem.ClaimMapViews
import Derived.JoinedTies
import Derived.KernelRfl
namespace Go.Proofs.Yteblnmealnmipaa
/- THE CELL 'sum', in the pinned program and in every row, IS THE sha256 OF THE DUMP (.gsa) THAT YteblnmealnmipaaProg.lean LOADS. Nothing in Lean hashes anything: it is a label: what it is worth is what the hold of that sum in a sandbox is worth. -/
noncomputable def Try.pinned : Pinned := { name := "yteblnmealnmipaa", sum := "9b7401e10adfffa4e62b73ce5085799f91af6aeeea243e5237c820cc4c03da52", checked := Try.checked }
namespace Rows
def none {H : Type} : Left H := { results := [], args := [] }

/-- 'sledgelaw08.LzParses': WHATEVER THE INPUT: true; the input reads as it did. -/
def lzParsesSpec : ChangeSpec := { name := "lzParses", fn := fun _ => fun
  | [d] => { results := [.lit (.bool true)], args := [d] }
  | _ => none }
def lzParsesRow : OpenClaim := { program := "yteblnmealnmipaa", sum := "9b7401e10adfffa4e62b73ce5085799f91af6aeeea243e5237c820cc4c03da52", func := "sledge/sledgelaw08.LzParses", spec := "lzParses", plainKeys := false, apart := false }
def LzParsesSaid : Prop := lzParsesRow.holds Try.pinned (OpenSpec.ofChange lzParsesSpec)

/-- ITS FALSE NEIGHBOUR: 'it returns false'. Refute it at one input. -/
def lzParsesWrong : ChangeSpec := { name := "lzParses", fn := fun _ => fun
  | [d] => { results := [.lit (.bool false)], args := [d] }
  | _ => none }
def LzParsesWrongFalsely : Prop := lzParsesRow.holds Try.pinned (OpenSpec.ofChange lzParsesWrong)

/-- 'sledgelaw08.LzExpands': WHATEVER THE INPUT: true; the input reads as it did. -/
def lzExpandsSpec : ChangeSpec := { name := "lzExpands", fn := fun _ => fun
  | [d1, d2] => { results := [.lit (.bool true)], args := [d1, d2] }
  | _ => none }
def lzExpandsRow : OpenClaim := { program := "yteblnmealnmipaa", sum := "9b7401e10adfffa4e62b73ce5085799f91af6aeeea243e5237c820cc4c03da52", func := "sledge/sledgelaw08.LzExpands", spec := "lzExpands", plainKeys := false, apart := false }
def LzExpandsSaid : Prop := lzExpandsRow.holds Try.pinned (OpenSpec.ofChange lzExpandsSpec)

/-- ITS FALSE NEIGHBOUR: 'it returns false'. Refute it at one input. -/
def lzExpandsWrong : ChangeSpec := { name := "lzExpands", fn := fun _ => fun
  | [d1, d2] => { results := [.lit (.bool false)], args := [d1, d2] }
  | _ => none }
def LzExpandsWrongFalsely : Prop := lzExpandsRow.holds Try.pinned (OpenSpec.ofChange lzExpandsWrong)

/-- 'sledgelaw08.LzBack': WHATEVER THE INPUT: true; the input reads as it did. -/
def lzBackSpec : ChangeSpec := { name := "lzBack", fn := fun _ => fun
  | [d1, d2] => { results := [.lit (.bool true)], args := [d1, d2] }
  | _ => none }
def lzBackRow : OpenClaim := { program := "yteblnmealnmipaa", sum := "9b7401e10adfffa4e62b73ce5085799f91af6aeeea243e5237c820cc4c03da52", func := "sledge/sledgelaw08.LzBack", spec := "lzBack", plainKeys := false, apart := false }
def LzBackSaid : Prop := lzBackRow.holds Try.pinned (OpenSpec.ofChange lzBackSpec)

/-- ITS FALSE NEIGHBOUR: 'it returns false'. Refute it at one input. -/
def lzBackWrong : ChangeSpec := { name := "lzBack", fn := fun _ => fun
  | [d1, d2] => { results := [.lit (.bool false)], args := [d1, d2] }
  | _ => none }
def LzBackWrongFalsely : Prop := lzBackRow.holds Try.pinned (OpenSpec.ofChange lzBackWrong)

/-- 'sledgelaw08.LzTokens': WHATEVER THE INPUT: true; the input reads as it did. -/
def lzTokensSpec : ChangeSpec := { name := "lzTokens", fn := fun _ => fun
  | [d] => { results := [.lit (.bool true)], args := [d] }
  | _ => none }
def lzTokensRow : OpenClaim := { program := "yteblnmealnmipaa", sum := "9b7401e10adfffa4e62b73ce5085799f91af6aeeea243e5237c820cc4c03da52", func := "sledge/sledgelaw08.LzTokens", spec := "lzTokens", plainKeys := false, apart := false }
def LzTokensSaid : Prop := lzTokensRow.holds Try.pinned (OpenSpec.ofChange lzTokensSpec)

/-- ITS FALSE NEIGHBOUR: 'it returns false'. Refute it at one input. -/
def lzTokensWrong : ChangeSpec := { name := "lzTokens", fn := fun _ => fun
  | [d] => { results := [.lit (.bool false)], args := [d] }
  | _ => none }
def LzTokensWrongFalsely : Prop := lzTokensRow.holds Try.pinned (OpenSpec.ofChange lzTokensWrong)

/-- 'sledgelaw08.LzRuns': WHATEVER THE INPUT: true; the input reads as it did. -/
def lzRunsSpec : ChangeSpec := { name := "lzRuns", fn := fun _ => fun
  | [d1, d2] => { results := [.lit (.bool true)], args := [d1, d2] }
  | _ => none }
def lzRunsRow : OpenClaim := { program := "yteblnmealnmipaa", sum := "9b7401e10adfffa4e62b73ce5085799f91af6aeeea243e5237c820cc4c03da52", func := "sledge/sledgelaw08.LzRuns", spec := "lzRuns", plainKeys := false, apart := false }
def LzRunsSaid : Prop := lzRunsRow.holds Try.pinned (OpenSpec.ofChange lzRunsSpec)

/-- ITS FALSE NEIGHBOUR: 'it returns false'. Refute it at one input. -/
def lzRunsWrong : ChangeSpec := { name := "lzRuns", fn := fun _ => fun
  | [d1, d2] => { results := [.lit (.bool false)], args := [d1, d2] }
  | _ => none }
def LzRunsWrongFalsely : Prop := lzRunsRow.holds Try.pinned (OpenSpec.ofChange lzRunsWrong)

/- THE SECOND FORM. 'bulk': how many values and letters a reading holds, each counted each time it is reached (what is shared counts as often as it is met; a slice's spare places count too). A statement '..UptoSaid' is the law's where the arguments, and the package variables that the reading takes, are together of bulk at most 1048576: NARROWER than '..Said'. Prove '..Said' where nothing that the law and all that it calls make is longer than what came in: it says more and counts as full. Else prove '..UptoSaid'. A law counts once. -/
mutual
def uptoBulk {H : Type} : DataW H → Nat
  | .lit (.string bytes) => bytes.length + 1
  | .lit _ => 1
  | .nil => 1
  | .ptr d => uptoBulk d + 1
  | .slice elems spare => uptoBulkAll elems + uptoBulkAll spare + 1
  | .agg parts => uptoBulkAll parts + 1
  | .iface _ d => uptoBulk d + 1
  | .map entries => uptoBulkEntries entries + 1
  | .held _ => 1
def uptoBulkAll {H : Type} : List (DataW H) → Nat
  | [] => 0
  | d :: r => uptoBulk d + uptoBulkAll r
def uptoBulkEntries {H : Type} : List (Lit × DataW H) → Nat
  | [] => 0
  | x :: r => uptoBulkEntry x + uptoBulkEntries r
def uptoBulkEntry {H : Type} : Lit × DataW H → Nat
  | (.string bytes, d) => bytes.length + uptoBulk d + 1
  | (_, d) => uptoBulk d + 1
 end
def uptoSmall : (H : Type) → List (DataW H) → Bool := fun _ ds => decide (uptoBulkAll ds ≤ 1048576)
def OpenSpec.upto (s : _root_.Go.ChangeSpec) : _root_.Go.OpenSpec := { _root_.Go.OpenSpec.ofChange s with cond := some uptoSmall }

/-- 'sledgelaw08.LzParses', WHERE WHAT IT READS IS OF BULK AT MOST 1048576: true; the input reads as it did. -/
def lzParsesUptoRow : OpenClaim := { program := "yteblnmealnmipaa", sum := "9b7401e10adfffa4e62b73ce5085799f91af6aeeea243e5237c820cc4c03da52", func := "sledge/sledgelaw08.LzParses", spec := "lzParses", plainKeys := false, apart := false, narrowed := true }
def LzParsesUptoSaid : Prop := lzParsesUptoRow.holds Try.pinned (OpenSpec.upto lzParsesSpec)

/-- 'sledgelaw08.LzExpands', WHERE WHAT IT READS IS OF BULK AT MOST 1048576: true; the input reads as it did. -/
def lzExpandsUptoRow : OpenClaim := { program := "yteblnmealnmipaa", sum := "9b7401e10adfffa4e62b73ce5085799f91af6aeeea243e5237c820cc4c03da52", func := "sledge/sledgelaw08.LzExpands", spec := "lzExpands", plainKeys := false, apart := false, narrowed := true }
def LzExpandsUptoSaid : Prop := lzExpandsUptoRow.holds Try.pinned (OpenSpec.upto lzExpandsSpec)

/-- 'sledgelaw08.LzBack', WHERE WHAT IT READS IS OF BULK AT MOST 1048576: true; the input reads as it did. -/
def lzBackUptoRow : OpenClaim := { program := "yteblnmealnmipaa", sum := "9b7401e10adfffa4e62b73ce5085799f91af6aeeea243e5237c820cc4c03da52", func := "sledge/sledgelaw08.LzBack", spec := "lzBack", plainKeys := false, apart := false, narrowed := true }
def LzBackUptoSaid : Prop := lzBackUptoRow.holds Try.pinned (OpenSpec.upto lzBackSpec)

/-- 'sledgelaw08.LzTokens', WHERE WHAT IT READS IS OF BULK AT MOST 1048576: true; the input reads as it did. -/
def lzTokensUptoRow : OpenClaim := { program := "yteblnmealnmipaa", sum := "9b7401e10adfffa4e62b73ce5085799f91af6aeeea243e5237c820cc4c03da52", func := "sledge/sledgelaw08.LzTokens", spec := "lzTokens", plainKeys := false, apart := false, narrowed := true }
def LzTokensUptoSaid : Prop := lzTokensUptoRow.holds Try.pinned (OpenSpec.upto lzTokensSpec)

/-- 'sledgelaw08.LzRuns', WHERE WHAT IT READS IS OF BULK AT MOST 1048576: true; the input reads as it did. -/
def lzRunsUptoRow : OpenClaim := { program := "yteblnmealnmipaa", sum := "9b7401e10adfffa4e62b73ce5085799f91af6aeeea243e5237c820cc4c03da52", func := "sledge/sledgelaw08.LzRuns", spec := "lzRuns", plainKeys := false, apart := false, narrowed := true }
def LzRunsUptoSaid : Prop := lzRunsUptoRow.holds Try.pinned (OpenSpec.upto lzRunsSpec)

end Rows
end Go.Proofs.Yteblnmealnmipaa
