/-
  No cell of these rows narrows 'for every input' (looked for: loops, veiled, ifaces, maps, wideKeys, modest, calm, conditions, laid).
  DERIVED. THE GIVEN ROWS OF THIS SEAT. 4 by the template 'for every input the law returns true; each argument reads behind the call as it read before'; 0 by the template 'total and deterministic' (their statements: YtjjjaeocdaimpaaTotals.lean).
  GIVEN WITH THE SEED: the statements are not yours to turn. If you find one false, say at which input.
  Laid BY PROGRAM, IN A SANDBOX (cutbox-rows.mjs): the forced cells as the released guide's own fill.sh prints them over the translation 417578650e46a6d6… (all of the seat's roots in one cut). By AI agents, Wed Nov 11 2026. No macro, syntax, notation, axiom, sorry.
-/
import Derived.Test.YtjjjaeocdaimpaaChecked
import GoSem.Claim
import GoSem.ClaimJoined
import GoSem.ClaimMapViews
import Derived.JoinedTies
import Derived.KernelRfl
namespace Go.Proofs.Ytjjjaeocdaimpaa
/- THE CELL 'sum', in the pinned program and in every row, IS THE sha256 OF THE DUMP (.gsa) THAT YtjjjaeocdaimpaaProg.lean LOADS. Nothing in Lean hashes anything: it is a label: what it is worth is what the hold of that sum in a sandbox is worth. -/
noncomputable def Try.pinned : Pinned := { name := "ytjjjaeocdaimpaa", sum := "417578650e46a6d6020ac0d52111a55d1de311fcff6a778f07113b361dcf7254", checked := Try.checked }
namespace Rows
def none {H : Type} : Left H := { results := [], args := [] }

/-- 'sledgelaw45.PacePlays': WHATEVER THE INPUT: true; the input reads as it did. -/
def pacePlaysSpec : ChangeSpec := { name := "pacePlays", fn := fun _ => fun
  | [d] => { results := [.lit (.bool true)], args := [d] }
  | _ => none }
def pacePlaysRow : OpenClaim := { program := "ytjjjaeocdaimpaa", sum := "417578650e46a6d6020ac0d52111a55d1de311fcff6a778f07113b361dcf7254", func := "sledge/sledgelaw45.PacePlays", spec := "pacePlays", apart := false }
def PacePlaysSaid : Prop := pacePlaysRow.holds Try.pinned (OpenSpec.ofChange pacePlaysSpec)

/-- ITS FALSE NEIGHBOUR: 'it returns false'. Refute it at one input. -/
def pacePlaysWrong : ChangeSpec := { name := "pacePlays", fn := fun _ => fun
  | [d] => { results := [.lit (.bool false)], args := [d] }
  | _ => none }
def PacePlaysWrongFalsely : Prop := pacePlaysRow.holds Try.pinned (OpenSpec.ofChange pacePlaysWrong)

/-- 'sledgelaw45.PaceBounds': WHATEVER THE INPUT: true; the input reads as it did. -/
def paceBoundsSpec : ChangeSpec := { name := "paceBounds", fn := fun _ => fun
  | [d] => { results := [.lit (.bool true)], args := [d] }
  | _ => none }
def paceBoundsRow : OpenClaim := { program := "ytjjjaeocdaimpaa", sum := "417578650e46a6d6020ac0d52111a55d1de311fcff6a778f07113b361dcf7254", func := "sledge/sledgelaw45.PaceBounds", spec := "paceBounds", apart := false }
def PaceBoundsSaid : Prop := paceBoundsRow.holds Try.pinned (OpenSpec.ofChange paceBoundsSpec)

/-- ITS FALSE NEIGHBOUR: 'it returns false'. Refute it at one input. -/
def paceBoundsWrong : ChangeSpec := { name := "paceBounds", fn := fun _ => fun
  | [d] => { results := [.lit (.bool false)], args := [d] }
  | _ => none }
def PaceBoundsWrongFalsely : Prop := paceBoundsRow.holds Try.pinned (OpenSpec.ofChange paceBoundsWrong)

/-- 'sledgelaw45.PaceSteady': WHATEVER THE INPUT: true; the input reads as it did. -/
def paceSteadySpec : ChangeSpec := { name := "paceSteady", fn := fun _ => fun
  | [d1, d2, d3] => { results := [.lit (.bool true)], args := [d1, d2, d3] }
  | _ => none }
def paceSteadyRow : OpenClaim := { program := "ytjjjaeocdaimpaa", sum := "417578650e46a6d6020ac0d52111a55d1de311fcff6a778f07113b361dcf7254", func := "sledge/sledgelaw45.PaceSteady", spec := "paceSteady", apart := false }
def PaceSteadySaid : Prop := paceSteadyRow.holds Try.pinned (OpenSpec.ofChange paceSteadySpec)

/-- ITS FALSE NEIGHBOUR: 'it returns false'. Refute it at one input. -/
def paceSteadyWrong : ChangeSpec := { name := "paceSteady", fn := fun _ => fun
  | [d1, d2, d3] => { results := [.lit (.bool false)], args := [d1, d2, d3] }
  | _ => none }
def PaceSteadyWrongFalsely : Prop := paceSteadyRow.holds Try.pinned (OpenSpec.ofChange paceSteadyWrong)

/-- 'sledgelaw45.PaceSame': WHATEVER THE INPUT: true; the input reads as it did. -/
def paceSameSpec : ChangeSpec := { name := "paceSame", fn := fun _ => fun
  | [d1, d2] => { results := [.lit (.bool true)], args := [d1, d2] }
  | _ => none }
def paceSameRow : OpenClaim := { program := "ytjjjaeocdaimpaa", sum := "417578650e46a6d6020ac0d52111a55d1de311fcff6a778f07113b361dcf7254", func := "sledge/sledgelaw45.PaceSame", spec := "paceSame", apart := false }
def PaceSameSaid : Prop := paceSameRow.holds Try.pinned (OpenSpec.ofChange paceSameSpec)

/-- ITS FALSE NEIGHBOUR: 'it returns false'. Refute it at one input. -/
def paceSameWrong : ChangeSpec := { name := "paceSame", fn := fun _ => fun
  | [d1, d2] => { results := [.lit (.bool false)], args := [d1, d2] }
  | _ => none }
def PaceSameWrongFalsely : Prop := paceSameRow.holds Try.pinned (OpenSpec.ofChange paceSameWrong)

/- THE SECOND FORM. 'bulk': how many values and letters a reading holds, each counted each time it is reached (what is shared counts as often as it is met; a slice's spare places count too). A statement '..UptoSaid' is the law's where the arguments, and the package variables that the reading takes, are together of bulk at most 1048576: NARROWER than '..Said'. Prove '..Said' where nothing that the law and all that it calls make is longer than what came in: it says more and counts as full. Else prove '..UptoSaid'. A law counts once. -/
mutual
def uptoBulk {H : Type} : DataW H → Nat
  | .lit (.string bytes) => bytes.length + 1
  | .lit _ => 1
  | .nil => 1
  | .ptr d => uptoBulk d + 1
  | .slice elems spare => uptoBulkAll elems + uptoBulkAll spare + 1
  | .agg parts => uptoBulkAll parts + 1
  | .iface _ d => uptoBulk d + 1
  | .map entries => uptoBulkEntries entries + 1
  | .held _ => 1
def uptoBulkAll {H : Type} : List (DataW H) → Nat
  | [] => 0
  | d :: r => uptoBulk d + uptoBulkAll r
def uptoBulkEntries {H : Type} : List (Lit × DataW H) → Nat
  | [] => 0
  | x :: r => uptoBulkEntry x + uptoBulkEntries r
def uptoBulkEntry {H : Type} : Lit × DataW H → Nat
  | (.string bytes, d) => bytes.length + uptoBulk d + 1
  | (_, d) => uptoBulk d + 1
 end
def uptoSmall : (H : Type) → List (DataW H) → Bool := fun _ ds => decide (uptoBulkAll ds ≤ 1048576)
def OpenSpec.upto (s : _root_.Go.ChangeSpec) : _root_.Go.OpenSpec := { _root_.Go.OpenSpec.ofChange s with cond := some uptoSmall }

/-- 'sledgelaw45.PacePlays', WHERE WHAT IT READS IS OF BULK AT MOST 1048576: true; the input reads as it did. -/
def pacePlaysUptoRow : OpenClaim := { program := "ytjjjaeocdaimpaa", sum := "417578650e46a6d6020ac0d52111a55d1de311fcff6a778f07113b361dcf7254", func := "sledge/sledgelaw45.PacePlays", spec := "pacePlays", apart := false, narrowed := true }
def PacePlaysUptoSaid : Prop := pacePlaysUptoRow.holds Try.pinned (OpenSpec.upto pacePlaysSpec)

/-- 'sledgelaw45.PaceBounds', WHERE WHAT IT READS IS OF BULK AT MOST 1048576: true; the input reads as it did. -/
def paceBoundsUptoRow : OpenClaim := { program := "ytjjjaeocdaimpaa", sum := "417578650e46a6d6020ac0d52111a55d1de311fcff6a778f07113b361dcf7254", func := "sledge/sledgelaw45.PaceBounds", spec := "paceBounds", apart := false, narrowed := true }
def PaceBoundsUptoSaid : Prop := paceBoundsUptoRow.holds Try.pinned (OpenSpec.upto paceBoundsSpec)

/-- 'sledgelaw45.PaceSteady', WHERE WHAT IT READS IS OF BULK AT MOST 1048576: true; the input reads as it did. -/
def paceSteadyUptoRow : OpenClaim := { program := "ytjjjaeocdaimpaa", sum := "417578650e46a6d6020ac0d52111a55d1de311fcff6a778f07113b361dcf7254", func := "sledge/sledgelaw45.PaceSteady", spec := "paceSteady", apart := false, narrowed := true }
def PaceSteadyUptoSaid : Prop := paceSteadyUptoRow.holds Try.pinned (OpenSpec.upto paceSteadySpec)

/-- 'sledgelaw45.PaceSame', WHERE WHAT IT READS IS OF BULK AT MOST 1048576: true; the input reads as it did. -/
def paceSameUptoRow : OpenClaim := { program := "ytjjjaeocdaimpaa", sum := "417578650e46a6d6020ac0d52111a55d1de311fcff6a778f07113b361dcf7254", func := "sledge/sledgelaw45.PaceSame", spec := "paceSame", apart := false, narrowed := true }
def PaceSameUptoSaid : Prop := paceSameUptoRow.holds Try.pinned (OpenSpec.upto paceSameSpec)

end Rows
end Go.Proofs.Ytjjjaeocdaimpaa
