/-
  No cell of these rows narrows 'for every input' (looked for: loops, veiled, ifaces, maps, wideKeys, modest, calm, conditions, laid).
  DERIVED. THE GIVEN ROWS OF THIS SEAT. 7 by the template 'for every input the law returns true; each argument reads behind the call as it read before'; 0 by the template 'total and deterministic' (their statements: YteoecchggjmffaaTotals.lean).
  GIVEN WITH THE SEED: the statements are not yours to turn. If you find one false, say at which input.
  Laid BY PROGRAM, IN A SANDBOX (cutbox-rows.mjs): the forced cells as the released guide's own fill.sh prints them over the translation 10d529ca17a794b3… (all of the seat's roots in one cut). By AI agents, Wed Nov 11 2026. No macro, syntax, notation, axiom, sorry.
-/
import Derived.Test.YteoecchggjmffaaChecked
import GoSem.Claim
import GoSem.ClaimJoined
import GoSem.ClaimMapViews
import Derived.JoinedTies
import Derived.KernelRfl
namespace Go.Proofs.Yteoecchggjmffaa
/- THE CELL 'sum', in the pinned program and in every row, IS THE sha256 OF THE DUMP (.gsa) THAT YteoecchggjmffaaProg.lean LOADS. Nothing in Lean hashes anything: it is a label: what it is worth is what the hold of that sum in a sandbox is worth. -/
noncomputable def Try.pinned : Pinned := { name := "yteoecchggjmffaa", sum := "10d529ca17a794b36c246b4cd3d376da3f57325d5df0ce90f85a45c19f8ba86a", checked := Try.checked }
namespace Rows
def none {H : Type} : Left H := { results := [], args := [] }

/-- 'sledgelaw09.FlateSymbols': WHATEVER THE INPUT: true; the input reads as it did. -/
def flateSymbolsSpec : ChangeSpec := { name := "flateSymbols", fn := fun _ => fun
  | [d1, d2] => { results := [.lit (.bool true)], args := [d1, d2] }
  | _ => none }
def flateSymbolsRow : OpenClaim := { program := "yteoecchggjmffaa", sum := "10d529ca17a794b36c246b4cd3d376da3f57325d5df0ce90f85a45c19f8ba86a", func := "sledge/sledgelaw09.FlateSymbols", spec := "flateSymbols", unfollowed := true, recurses := true, plainKeys := false, apart := false }
def FlateSymbolsSaid : Prop := flateSymbolsRow.holds Try.pinned (OpenSpec.ofChange flateSymbolsSpec)

/-- ITS FALSE NEIGHBOUR: 'it returns false'. Refute it at one input. -/
def flateSymbolsWrong : ChangeSpec := { name := "flateSymbols", fn := fun _ => fun
  | [d1, d2] => { results := [.lit (.bool false)], args := [d1, d2] }
  | _ => none }
def FlateSymbolsWrongFalsely : Prop := flateSymbolsRow.holds Try.pinned (OpenSpec.ofChange flateSymbolsWrong)

/-- 'sledgelaw09.FlateFixed': WHATEVER THE INPUT: true; the input reads as it did. -/
def flateFixedSpec : ChangeSpec := { name := "flateFixed", fn := fun _ => fun
  | [] => { results := [.lit (.bool true)], args := [] }
  | _ => none }
def flateFixedRow : OpenClaim := { program := "yteoecchggjmffaa", sum := "10d529ca17a794b36c246b4cd3d376da3f57325d5df0ce90f85a45c19f8ba86a", func := "sledge/sledgelaw09.FlateFixed", spec := "flateFixed", unfollowed := true, recurses := true, plainKeys := false, apart := false }
def FlateFixedSaid : Prop := flateFixedRow.holds Try.pinned (OpenSpec.ofChange flateFixedSpec)

/-- ITS FALSE NEIGHBOUR: 'it returns false'. Refute it at one input. -/
def flateFixedWrong : ChangeSpec := { name := "flateFixed", fn := fun _ => fun
  | [] => { results := [.lit (.bool false)], args := [] }
  | _ => none }
def FlateFixedWrongFalsely : Prop := flateFixedRow.holds Try.pinned (OpenSpec.ofChange flateFixedWrong)

/-- 'sledgelaw09.FlateStores': WHATEVER THE INPUT: true; the input reads as it did. -/
def flateStoresSpec : ChangeSpec := { name := "flateStores", fn := fun _ => fun
  | [d] => { results := [.lit (.bool true)], args := [d] }
  | _ => none }
def flateStoresRow : OpenClaim := { program := "yteoecchggjmffaa", sum := "10d529ca17a794b36c246b4cd3d376da3f57325d5df0ce90f85a45c19f8ba86a", func := "sledge/sledgelaw09.FlateStores", spec := "flateStores", unfollowed := true, recurses := true, plainKeys := false, apart := false }
def FlateStoresSaid : Prop := flateStoresRow.holds Try.pinned (OpenSpec.ofChange flateStoresSpec)

/-- ITS FALSE NEIGHBOUR: 'it returns false'. Refute it at one input. -/
def flateStoresWrong : ChangeSpec := { name := "flateStores", fn := fun _ => fun
  | [d] => { results := [.lit (.bool false)], args := [d] }
  | _ => none }
def FlateStoresWrongFalsely : Prop := flateStoresRow.holds Try.pinned (OpenSpec.ofChange flateStoresWrong)

/-- 'sledgelaw09.FlateSimple': WHATEVER THE INPUT: true; the input reads as it did. -/
def flateSimpleSpec : ChangeSpec := { name := "flateSimple", fn := fun _ => fun
  | [d] => { results := [.lit (.bool true)], args := [d] }
  | _ => none }
def flateSimpleRow : OpenClaim := { program := "yteoecchggjmffaa", sum := "10d529ca17a794b36c246b4cd3d376da3f57325d5df0ce90f85a45c19f8ba86a", func := "sledge/sledgelaw09.FlateSimple", spec := "flateSimple", unfollowed := true, recurses := true, plainKeys := false, apart := false }
def FlateSimpleSaid : Prop := flateSimpleRow.holds Try.pinned (OpenSpec.ofChange flateSimpleSpec)

/-- ITS FALSE NEIGHBOUR: 'it returns false'. Refute it at one input. -/
def flateSimpleWrong : ChangeSpec := { name := "flateSimple", fn := fun _ => fun
  | [d] => { results := [.lit (.bool false)], args := [d] }
  | _ => none }
def FlateSimpleWrongFalsely : Prop := flateSimpleRow.holds Try.pinned (OpenSpec.ofChange flateSimpleWrong)

/-- 'sledgelaw09.FlateOrder': WHATEVER THE INPUT: true; the input reads as it did. -/
def flateOrderSpec : ChangeSpec := { name := "flateOrder", fn := fun _ => fun
  | [d1, d2] => { results := [.lit (.bool true)], args := [d1, d2] }
  | _ => none }
def flateOrderRow : OpenClaim := { program := "yteoecchggjmffaa", sum := "10d529ca17a794b36c246b4cd3d376da3f57325d5df0ce90f85a45c19f8ba86a", func := "sledge/sledgelaw09.FlateOrder", spec := "flateOrder", unfollowed := true, recurses := true, plainKeys := false, apart := false }
def FlateOrderSaid : Prop := flateOrderRow.holds Try.pinned (OpenSpec.ofChange flateOrderSpec)

/-- ITS FALSE NEIGHBOUR: 'it returns false'. Refute it at one input. -/
def flateOrderWrong : ChangeSpec := { name := "flateOrder", fn := fun _ => fun
  | [d1, d2] => { results := [.lit (.bool false)], args := [d1, d2] }
  | _ => none }
def FlateOrderWrongFalsely : Prop := flateOrderRow.holds Try.pinned (OpenSpec.ofChange flateOrderWrong)

/-- 'sledgelaw09.FlateBlocks': WHATEVER THE INPUT: true; the input reads as it did. -/
def flateBlocksSpec : ChangeSpec := { name := "flateBlocks", fn := fun _ => fun
  | [d1, d2] => { results := [.lit (.bool true)], args := [d1, d2] }
  | _ => none }
def flateBlocksRow : OpenClaim := { program := "yteoecchggjmffaa", sum := "10d529ca17a794b36c246b4cd3d376da3f57325d5df0ce90f85a45c19f8ba86a", func := "sledge/sledgelaw09.FlateBlocks", spec := "flateBlocks", unfollowed := true, recurses := true, plainKeys := false, apart := false }
def FlateBlocksSaid : Prop := flateBlocksRow.holds Try.pinned (OpenSpec.ofChange flateBlocksSpec)

/-- ITS FALSE NEIGHBOUR: 'it returns false'. Refute it at one input. -/
def flateBlocksWrong : ChangeSpec := { name := "flateBlocks", fn := fun _ => fun
  | [d1, d2] => { results := [.lit (.bool false)], args := [d1, d2] }
  | _ => none }
def FlateBlocksWrongFalsely : Prop := flateBlocksRow.holds Try.pinned (OpenSpec.ofChange flateBlocksWrong)

/-- 'sledgelaw09.FlatePacks': WHATEVER THE INPUT: true; the input reads as it did. -/
def flatePacksSpec : ChangeSpec := { name := "flatePacks", fn := fun _ => fun
  | [d] => { results := [.lit (.bool true)], args := [d] }
  | _ => none }
def flatePacksRow : OpenClaim := { program := "yteoecchggjmffaa", sum := "10d529ca17a794b36c246b4cd3d376da3f57325d5df0ce90f85a45c19f8ba86a", func := "sledge/sledgelaw09.FlatePacks", spec := "flatePacks", unfollowed := true, recurses := true, plainKeys := false, apart := false }
def FlatePacksSaid : Prop := flatePacksRow.holds Try.pinned (OpenSpec.ofChange flatePacksSpec)

/-- ITS FALSE NEIGHBOUR: 'it returns false'. Refute it at one input. -/
def flatePacksWrong : ChangeSpec := { name := "flatePacks", fn := fun _ => fun
  | [d] => { results := [.lit (.bool false)], args := [d] }
  | _ => none }
def FlatePacksWrongFalsely : Prop := flatePacksRow.holds Try.pinned (OpenSpec.ofChange flatePacksWrong)

/- THE SECOND FORM. 'bulk': how many values and letters a reading holds, each counted each time it is reached (what is shared counts as often as it is met; a slice's spare places count too). A statement '..UptoSaid' is the law's where the arguments, and the package variables that the reading takes, are together of bulk at most 1048576: NARROWER than '..Said'. Prove '..Said' where nothing that the law and all that it calls make is longer than what came in: it says more and counts as full. Else prove '..UptoSaid'. A law counts once. -/
mutual
def uptoBulk {H : Type} : DataW H → Nat
  | .lit (.string bytes) => bytes.length + 1
  | .lit _ => 1
  | .nil => 1
  | .ptr d => uptoBulk d + 1
  | .slice elems spare => uptoBulkAll elems + uptoBulkAll spare + 1
  | .agg parts => uptoBulkAll parts + 1
  | .iface _ d => uptoBulk d + 1
  | .map entries => uptoBulkEntries entries + 1
  | .held _ => 1
def uptoBulkAll {H : Type} : List (DataW H) → Nat
  | [] => 0
  | d :: r => uptoBulk d + uptoBulkAll r
def uptoBulkEntries {H : Type} : List (Lit × DataW H) → Nat
  | [] => 0
  | x :: r => uptoBulkEntry x + uptoBulkEntries r
def uptoBulkEntry {H : Type} : Lit × DataW H → Nat
  | (.string bytes, d) => bytes.length + uptoBulk d + 1
  | (_, d) => uptoBulk d + 1
 end
def uptoSmall : (H : Type) → List (DataW H) → Bool := fun _ ds => decide (uptoBulkAll ds ≤ 1048576)
def OpenSpec.upto (s : _root_.Go.ChangeSpec) : _root_.Go.OpenSpec := { _root_.Go.OpenSpec.ofChange s with cond := some uptoSmall }

/-- 'sledgelaw09.FlateSymbols', WHERE WHAT IT READS IS OF BULK AT MOST 1048576: true; the input reads as it did. -/
def flateSymbolsUptoRow : OpenClaim := { program := "yteoecchggjmffaa", sum := "10d529ca17a794b36c246b4cd3d376da3f57325d5df0ce90f85a45c19f8ba86a", func := "sledge/sledgelaw09.FlateSymbols", spec := "flateSymbols", unfollowed := true, recurses := true, plainKeys := false, apart := false, narrowed := true }
def FlateSymbolsUptoSaid : Prop := flateSymbolsUptoRow.holds Try.pinned (OpenSpec.upto flateSymbolsSpec)

/-- 'sledgelaw09.FlateFixed', WHERE WHAT IT READS IS OF BULK AT MOST 1048576: true; the input reads as it did. -/
def flateFixedUptoRow : OpenClaim := { program := "yteoecchggjmffaa", sum := "10d529ca17a794b36c246b4cd3d376da3f57325d5df0ce90f85a45c19f8ba86a", func := "sledge/sledgelaw09.FlateFixed", spec := "flateFixed", unfollowed := true, recurses := true, plainKeys := false, apart := false, narrowed := true }
def FlateFixedUptoSaid : Prop := flateFixedUptoRow.holds Try.pinned (OpenSpec.upto flateFixedSpec)

/-- 'sledgelaw09.FlateStores', WHERE WHAT IT READS IS OF BULK AT MOST 1048576: true; the input reads as it did. -/
def flateStoresUptoRow : OpenClaim := { program := "yteoecchggjmffaa", sum := "10d529ca17a794b36c246b4cd3d376da3f57325d5df0ce90f85a45c19f8ba86a", func := "sledge/sledgelaw09.FlateStores", spec := "flateStores", unfollowed := true, recurses := true, plainKeys := false, apart := false, narrowed := true }
def FlateStoresUptoSaid : Prop := flateStoresUptoRow.holds Try.pinned (OpenSpec.upto flateStoresSpec)

/-- 'sledgelaw09.FlateSimple', WHERE WHAT IT READS IS OF BULK AT MOST 1048576: true; the input reads as it did. -/
def flateSimpleUptoRow : OpenClaim := { program := "yteoecchggjmffaa", sum := "10d529ca17a794b36c246b4cd3d376da3f57325d5df0ce90f85a45c19f8ba86a", func := "sledge/sledgelaw09.FlateSimple", spec := "flateSimple", unfollowed := true, recurses := true, plainKeys := false, apart := false, narrowed := true }
def FlateSimpleUptoSaid : Prop := flateSimpleUptoRow.holds Try.pinned (OpenSpec.upto flateSimpleSpec)

/-- 'sledgelaw09.FlateOrder', WHERE WHAT IT READS IS OF BULK AT MOST 1048576: true; the input reads as it did. -/
def flateOrderUptoRow : OpenClaim := { program := "yteoecchggjmffaa", sum := "10d529ca17a794b36c246b4cd3d376da3f57325d5df0ce90f85a45c19f8ba86a", func := "sledge/sledgelaw09.FlateOrder", spec := "flateOrder", unfollowed := true, recurses := true, plainKeys := false, apart := false, narrowed := true }
def FlateOrderUptoSaid : Prop := flateOrderUptoRow.holds Try.pinned (OpenSpec.upto flateOrderSpec)

/-- 'sledgelaw09.FlateBlocks', WHERE WHAT IT READS IS OF BULK AT MOST 1048576: true; the input reads as it did. -/
def flateBlocksUptoRow : OpenClaim := { program := "yteoecchggjmffaa", sum := "10d529ca17a794b36c246b4cd3d376da3f57325d5df0ce90f85a45c19f8ba86a", func := "sledge/sledgelaw09.FlateBlocks", spec := "flateBlocks", unfollowed := true, recurses := true, plainKeys := false, apart := false, narrowed := true }
def FlateBlocksUptoSaid : Prop := flateBlocksUptoRow.holds Try.pinned (OpenSpec.upto flateBlocksSpec)

/-- 'sledgelaw09.FlatePacks', WHERE WHAT IT READS IS OF BULK AT MOST 1048576: true; the input reads as it did. -/
def flatePacksUptoRow : OpenClaim := { program := "yteoecchggjmffaa", sum := "10d529ca17a794b36c246b4cd3d376da3f57325d5df0ce90f85a45c19f8ba86a", func := "sledge/sledgelaw09.FlatePacks", spec := "flatePacks", unfollowed := true, recurses := true, plainKeys := false, apart := false, narrowed := true }
def FlatePacksUptoSaid : Prop := flatePacksUptoRow.holds Try.pinned (OpenSpec.upto flatePacksSpec)

end Rows
end Go.Proofs.Yteoecchggjmffaa
