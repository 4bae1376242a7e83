/-
  lz: the text of tokens, plainly.
-/
import Derived.Test.YteblnmealnmipaaLzT
namespace Go.Proofs.Yteblnmealnmipaa

/-- May a token stand behind so many bytes? -/
def may (t : Tok) (n : Nat) : Bool :=
  if t.len = 0 then decide (t.dist = 0 ∧ 0 ≤ t.lit ∧ t.lit < 256) else decide (t.lit = 0 ∧ 3 ≤ t.len ∧ t.len ≤ 258 ∧ 1 ≤ t.dist ∧ t.dist ≤ 32768 ∧ t.dist ≤ n)
/-- So many bytes more, each as the one so far back. -/
def copyN (d : Nat) (out : List Int) : Nat → List Int
  | 0 => out
  | k + 1 => copyN d out k ++ [(copyN d out k).getD ((copyN d out k).length - d) 0]
theorem copyN_length (d : Nat) (out : List Int) : ∀ k, (copyN d out k).length = out.length + k := by
  intro k
  induction k with
  | zero => rfl
  | succ k ih => rw [copyN, List.length_append, ih]; simp; omega
inductive Res where
  | err (e : Nat)
  | ok (out : List Int)
/-- The text of tokens, behind some bytes. -/
def exp (most : Int) : List Tok → List Int → Res
  | [], out => .ok out
  | t :: l, out =>
    if may t out.length = false then .err 2
    else if IntKind.i64.wrap (most - out.length) < max t.len 1 then .err 12
    else if t.len = 0 then exp most l (out ++ [t.lit])
    else exp most l (copyN t.dist.toNat out t.len.toNat)
end Go.Proofs.Yteblnmealnmipaa
