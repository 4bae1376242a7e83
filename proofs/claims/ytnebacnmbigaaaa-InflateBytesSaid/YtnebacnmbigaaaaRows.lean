/-
  No cell of these rows narrows 'for every input' (looked for: loops, veiled, ifaces, maps, wideKeys, modest, calm, conditions, laid).
  DERIVED. THE GIVEN ROWS OF THIS SEAT. 6 by the template 'for every input the law returns true; each argument reads behind the call as it read before'; 0 by the template 'total and deterministic' (their statements: YtnebacnmbigaaaaTotals.lean).
  GIVEN WITH THE SEED: the statements are not yours to turn. If you find one false, say at which input.
  Laid BY PROGRAM, IN A SANDBOX (cutbox-rows.mjs): the forced cells as the released guide's own fill.sh prints them over the translation 2aa479694a328c85… (all of the seat's roots in one cut). By AI agents, Wed Nov 11 2026. No macro, syntax, notation, axiom, sorry.
-/
import Derived.Test.YtnebacnmbigaaaaChecked
import GoSem.Claim
import GoSem.ClaimJoined
import GoSem.ClaimMapViews
import Derived.JoinedTies
import Derived.KernelRfl
namespace Go.Proofs.Ytnebacnmbigaaaa
/- THE CELL 'sum', in the pinned program and in every row, IS THE sha256 OF THE DUMP (.gsa) THAT YtnebacnmbigaaaaProg.lean LOADS. Nothing in Lean hashes anything: it is a label: what it is worth is what the hold of that sum in a sandbox is worth. -/
noncomputable def Try.pinned : Pinned := { name := "ytnebacnmbigaaaa", sum := "2aa479694a328c85e841da2533c042c987713235728fe6e7d4e6570f38efe271", checked := Try.checked }
namespace Rows
def none {H : Type} : Left H := { results := [], args := [] }

/-- 'sledgelaw10.InflateBytes': WHATEVER THE INPUT: true; the input reads as it did. -/
def inflateBytesSpec : ChangeSpec := { name := "inflateBytes", fn := fun _ => fun
  | [d1, d2] => { results := [.lit (.bool true)], args := [d1, d2] }
  | _ => none }
def inflateBytesRow : OpenClaim := { program := "ytnebacnmbigaaaa", sum := "2aa479694a328c85e841da2533c042c987713235728fe6e7d4e6570f38efe271", func := "sledge/sledgelaw10.InflateBytes", spec := "inflateBytes", unfollowed := true, recurses := true, plainKeys := false, apart := false }
def InflateBytesSaid : Prop := inflateBytesRow.holds Try.pinned (OpenSpec.ofChange inflateBytesSpec)

/-- ITS FALSE NEIGHBOUR: 'it returns false'. Refute it at one input. -/
def inflateBytesWrong : ChangeSpec := { name := "inflateBytes", fn := fun _ => fun
  | [d1, d2] => { results := [.lit (.bool false)], args := [d1, d2] }
  | _ => none }
def InflateBytesWrongFalsely : Prop := inflateBytesRow.holds Try.pinned (OpenSpec.ofChange inflateBytesWrong)

/-- 'sledgelaw10.InflateAny': WHATEVER THE INPUT: true; the input reads as it did. -/
def inflateAnySpec : ChangeSpec := { name := "inflateAny", fn := fun _ => fun
  | [d1, d2] => { results := [.lit (.bool true)], args := [d1, d2] }
  | _ => none }
def inflateAnyRow : OpenClaim := { program := "ytnebacnmbigaaaa", sum := "2aa479694a328c85e841da2533c042c987713235728fe6e7d4e6570f38efe271", func := "sledge/sledgelaw10.InflateAny", spec := "inflateAny", unfollowed := true, recurses := true, plainKeys := false, apart := false }
def InflateAnySaid : Prop := inflateAnyRow.holds Try.pinned (OpenSpec.ofChange inflateAnySpec)

/-- ITS FALSE NEIGHBOUR: 'it returns false'. Refute it at one input. -/
def inflateAnyWrong : ChangeSpec := { name := "inflateAny", fn := fun _ => fun
  | [d1, d2] => { results := [.lit (.bool false)], args := [d1, d2] }
  | _ => none }
def InflateAnyWrongFalsely : Prop := inflateAnyRow.holds Try.pinned (OpenSpec.ofChange inflateAnyWrong)

/-- 'sledgelaw10.InflateBlocks': WHATEVER THE INPUT: true; the input reads as it did. -/
def inflateBlocksSpec : ChangeSpec := { name := "inflateBlocks", fn := fun _ => fun
  | [d1, d2, d3] => { results := [.lit (.bool true)], args := [d1, d2, d3] }
  | _ => none }
def inflateBlocksRow : OpenClaim := { program := "ytnebacnmbigaaaa", sum := "2aa479694a328c85e841da2533c042c987713235728fe6e7d4e6570f38efe271", func := "sledge/sledgelaw10.InflateBlocks", spec := "inflateBlocks", unfollowed := true, recurses := true, plainKeys := false, apart := false }
def InflateBlocksSaid : Prop := inflateBlocksRow.holds Try.pinned (OpenSpec.ofChange inflateBlocksSpec)

/-- ITS FALSE NEIGHBOUR: 'it returns false'. Refute it at one input. -/
def inflateBlocksWrong : ChangeSpec := { name := "inflateBlocks", fn := fun _ => fun
  | [d1, d2, d3] => { results := [.lit (.bool false)], args := [d1, d2, d3] }
  | _ => none }
def InflateBlocksWrongFalsely : Prop := inflateBlocksRow.holds Try.pinned (OpenSpec.ofChange inflateBlocksWrong)

/-- 'sledgelaw10.InflateBack': WHATEVER THE INPUT: true; the input reads as it did. -/
def inflateBackSpec : ChangeSpec := { name := "inflateBack", fn := fun _ => fun
  | [d1, d2, d3] => { results := [.lit (.bool true)], args := [d1, d2, d3] }
  | _ => none }
def inflateBackRow : OpenClaim := { program := "ytnebacnmbigaaaa", sum := "2aa479694a328c85e841da2533c042c987713235728fe6e7d4e6570f38efe271", func := "sledge/sledgelaw10.InflateBack", spec := "inflateBack", unfollowed := true, recurses := true, plainKeys := false, apart := false }
def InflateBackSaid : Prop := inflateBackRow.holds Try.pinned (OpenSpec.ofChange inflateBackSpec)

/-- ITS FALSE NEIGHBOUR: 'it returns false'. Refute it at one input. -/
def inflateBackWrong : ChangeSpec := { name := "inflateBack", fn := fun _ => fun
  | [d1, d2, d3] => { results := [.lit (.bool false)], args := [d1, d2, d3] }
  | _ => none }
def InflateBackWrongFalsely : Prop := inflateBackRow.holds Try.pinned (OpenSpec.ofChange inflateBackWrong)

/-- 'sledgelaw10.InflateLimit': WHATEVER THE INPUT: true; the input reads as it did. -/
def inflateLimitSpec : ChangeSpec := { name := "inflateLimit", fn := fun _ => fun
  | [d1, d2, d3] => { results := [.lit (.bool true)], args := [d1, d2, d3] }
  | _ => none }
def inflateLimitRow : OpenClaim := { program := "ytnebacnmbigaaaa", sum := "2aa479694a328c85e841da2533c042c987713235728fe6e7d4e6570f38efe271", func := "sledge/sledgelaw10.InflateLimit", spec := "inflateLimit", unfollowed := true, recurses := true, plainKeys := false, apart := false }
def InflateLimitSaid : Prop := inflateLimitRow.holds Try.pinned (OpenSpec.ofChange inflateLimitSpec)

/-- ITS FALSE NEIGHBOUR: 'it returns false'. Refute it at one input. -/
def inflateLimitWrong : ChangeSpec := { name := "inflateLimit", fn := fun _ => fun
  | [d1, d2, d3] => { results := [.lit (.bool false)], args := [d1, d2, d3] }
  | _ => none }
def InflateLimitWrongFalsely : Prop := inflateLimitRow.holds Try.pinned (OpenSpec.ofChange inflateLimitWrong)

/-- 'sledgelaw10.InflateCut': WHATEVER THE INPUT: true; the input reads as it did. -/
def inflateCutSpec : ChangeSpec := { name := "inflateCut", fn := fun _ => fun
  | [d1, d2, d3] => { results := [.lit (.bool true)], args := [d1, d2, d3] }
  | _ => none }
def inflateCutRow : OpenClaim := { program := "ytnebacnmbigaaaa", sum := "2aa479694a328c85e841da2533c042c987713235728fe6e7d4e6570f38efe271", func := "sledge/sledgelaw10.InflateCut", spec := "inflateCut", unfollowed := true, recurses := true, plainKeys := false, apart := false }
def InflateCutSaid : Prop := inflateCutRow.holds Try.pinned (OpenSpec.ofChange inflateCutSpec)

/-- ITS FALSE NEIGHBOUR: 'it returns false'. Refute it at one input. -/
def inflateCutWrong : ChangeSpec := { name := "inflateCut", fn := fun _ => fun
  | [d1, d2, d3] => { results := [.lit (.bool false)], args := [d1, d2, d3] }
  | _ => none }
def InflateCutWrongFalsely : Prop := inflateCutRow.holds Try.pinned (OpenSpec.ofChange inflateCutWrong)

/- THE SECOND FORM. 'bulk': how many values and letters a reading holds, each counted each time it is reached (what is shared counts as often as it is met; a slice's spare places count too). A statement '..UptoSaid' is the law's where the arguments, and the package variables that the reading takes, are together of bulk at most 1048576: NARROWER than '..Said'. Prove '..Said' where nothing that the law and all that it calls make is longer than what came in: it says more and counts as full. Else prove '..UptoSaid'. A law counts once. -/
mutual
def uptoBulk {H : Type} : DataW H → Nat
  | .lit (.string bytes) => bytes.length + 1
  | .lit _ => 1
  | .nil => 1
  | .ptr d => uptoBulk d + 1
  | .slice elems spare => uptoBulkAll elems + uptoBulkAll spare + 1
  | .agg parts => uptoBulkAll parts + 1
  | .iface _ d => uptoBulk d + 1
  | .map entries => uptoBulkEntries entries + 1
  | .held _ => 1
def uptoBulkAll {H : Type} : List (DataW H) → Nat
  | [] => 0
  | d :: r => uptoBulk d + uptoBulkAll r
def uptoBulkEntries {H : Type} : List (Lit × DataW H) → Nat
  | [] => 0
  | x :: r => uptoBulkEntry x + uptoBulkEntries r
def uptoBulkEntry {H : Type} : Lit × DataW H → Nat
  | (.string bytes, d) => bytes.length + uptoBulk d + 1
  | (_, d) => uptoBulk d + 1
 end
def uptoSmall : (H : Type) → List (DataW H) → Bool := fun _ ds => decide (uptoBulkAll ds ≤ 1048576)
def OpenSpec.upto (s : _root_.Go.ChangeSpec) : _root_.Go.OpenSpec := { _root_.Go.OpenSpec.ofChange s with cond := some uptoSmall }

/-- 'sledgelaw10.InflateBytes', WHERE WHAT IT READS IS OF BULK AT MOST 1048576: true; the input reads as it did. -/
def inflateBytesUptoRow : OpenClaim := { program := "ytnebacnmbigaaaa", sum := "2aa479694a328c85e841da2533c042c987713235728fe6e7d4e6570f38efe271", func := "sledge/sledgelaw10.InflateBytes", spec := "inflateBytes", unfollowed := true, recurses := true, plainKeys := false, apart := false, narrowed := true }
def InflateBytesUptoSaid : Prop := inflateBytesUptoRow.holds Try.pinned (OpenSpec.upto inflateBytesSpec)

/-- 'sledgelaw10.InflateAny', WHERE WHAT IT READS IS OF BULK AT MOST 1048576: true; the input reads as it did. -/
def inflateAnyUptoRow : OpenClaim := { program := "ytnebacnmbigaaaa", sum := "2aa479694a328c85e841da2533c042c987713235728fe6e7d4e6570f38efe271", func := "sledge/sledgelaw10.InflateAny", spec := "inflateAny", unfollowed := true, recurses := true, plainKeys := false, apart := false, narrowed := true }
def InflateAnyUptoSaid : Prop := inflateAnyUptoRow.holds Try.pinned (OpenSpec.upto inflateAnySpec)

/-- 'sledgelaw10.InflateBlocks', WHERE WHAT IT READS IS OF BULK AT MOST 1048576: true; the input reads as it did. -/
def inflateBlocksUptoRow : OpenClaim := { program := "ytnebacnmbigaaaa", sum := "2aa479694a328c85e841da2533c042c987713235728fe6e7d4e6570f38efe271", func := "sledge/sledgelaw10.InflateBlocks", spec := "inflateBlocks", unfollowed := true, recurses := true, plainKeys := false, apart := false, narrowed := true }
def InflateBlocksUptoSaid : Prop := inflateBlocksUptoRow.holds Try.pinned (OpenSpec.upto inflateBlocksSpec)

/-- 'sledgelaw10.InflateBack', WHERE WHAT IT READS IS OF BULK AT MOST 1048576: true; the input reads as it did. -/
def inflateBackUptoRow : OpenClaim := { program := "ytnebacnmbigaaaa", sum := "2aa479694a328c85e841da2533c042c987713235728fe6e7d4e6570f38efe271", func := "sledge/sledgelaw10.InflateBack", spec := "inflateBack", unfollowed := true, recurses := true, plainKeys := false, apart := false, narrowed := true }
def InflateBackUptoSaid : Prop := inflateBackUptoRow.holds Try.pinned (OpenSpec.upto inflateBackSpec)

/-- 'sledgelaw10.InflateLimit', WHERE WHAT IT READS IS OF BULK AT MOST 1048576: true; the input reads as it did. -/
def inflateLimitUptoRow : OpenClaim := { program := "ytnebacnmbigaaaa", sum := "2aa479694a328c85e841da2533c042c987713235728fe6e7d4e6570f38efe271", func := "sledge/sledgelaw10.InflateLimit", spec := "inflateLimit", unfollowed := true, recurses := true, plainKeys := false, apart := false, narrowed := true }
def InflateLimitUptoSaid : Prop := inflateLimitUptoRow.holds Try.pinned (OpenSpec.upto inflateLimitSpec)

/-- 'sledgelaw10.InflateCut', WHERE WHAT IT READS IS OF BULK AT MOST 1048576: true; the input reads as it did. -/
def inflateCutUptoRow : OpenClaim := { program := "ytnebacnmbigaaaa", sum := "2aa479694a328c85e841da2533c042c987713235728fe6e7d4e6570f38efe271", func := "sledge/sledgelaw10.InflateCut", spec := "inflateCut", unfollowed := true, recurses := true, plainKeys := false, apart := false, narrowed := true }
def InflateCutUptoSaid : Prop := inflateCutUptoRow.holds Try.pinned (OpenSpec.upto inflateCutSpec)

end Rows
end Go.Proofs.Ytnebacnmbigaaaa
