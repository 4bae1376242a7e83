/-
  A look-up in a map of ints, in a region that draws its order.
-/
import Derived.Test.YtnpflnplpipipaaMap
import Derived.Test.YtnpflnplpipipaaReg
namespace Go.Proofs.Ytnpflnplpipipaa
open Go.RowKit Go.Maps

section
variable {P : Program} {ops : Array Oper} {S : Sig → World → Prop} {nw : List Nat} {R : Act → Prop} {a : Act} {o : Oper} {rest : List Oper} {i : Nat}
variable {K E t : TypeId} {α : Type} {enc : α → Value} {b n : Nat} {g : α → Int} {w0 : World}
theorem calm_lookup (m x : Operand) (hi : i ∉ nw) (hw : Region.wanted o (yielded ops a.tmps) = true) (ho : o.op = .lookup t m x false) (hm : a.eval m = .map (some b)) {k : α} (hx : a.eval x = enc k)
    (hS : ∀ σ w, S σ w → ∃ ps, Own w0 w (mpi P K E enc b n g :: ps)) (hK : Keyed P K) (ht : P.underlying t = some (.map K E)) (he : P.underlying E = some (.int .i64)) (hz : ∀ w, (zeroValue E).run P w = .ok (.int .i64 0) w)
    {kl : Lit} (hkey : keyOf P K (enc k) = some kl)
    (h : calm P ops S nw R (i + 1) rest (a.put o.dst (.int .i64 (g k)))) : calm P ops S nw R i (o :: rest) a :=
  calm_value hi hw (fun σ w hs => by
    obtain ⟨ps, H⟩ := hS σ w hs
    have hr := mpi_lookup H hK ht he (hz w) hkey
    simp [execOp, ho, hm, hx, hr]) h
theorem Own.mpi_mono {w : World} {ps : List Piece} {m : Nat} (h : Own w0 w (mpi P K E enc b n g :: ps)) (hm : n ≤ m) : Own w0 w (mpi P K E enc b m g :: ps) :=
  h.imp fun _ ⟨es, clock, h1, h2, h3, h4⟩ => ⟨es, clock, h1, h2, by omega, h4⟩
end
end Go.Proofs.Ytnpflnplpipipaa
