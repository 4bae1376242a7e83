/-
  Calm regions over what a call owns: loads, calls, allocs. No program in sight.
-/
import Derived.Test.YtfeamlbkogigkaaCalm
import Derived.Test.YtfeamlbkogigkaaSt
namespace Go.Proofs.Ytfeamlbkogigkaa
open Go.RowKit

section
variable {P : Program} {ops : Array Oper} {S : Sig → World → Prop} {nw : List Nat} {R : Act → Prop} {a : Act} {o : Oper} {rest : List Oper} {i : Nat}
theorem calm_value {v : Value} (hi : i ∉ nw) (hw : Region.wanted o (yielded ops a.tmps) = true) (h1 : ∀ σ w, S σ w → (execOp a.eval o).run P w = .ok (.value v) w) (h : calm P ops S nw R (i + 1) rest (a.put o.dst v)) : calm P ops S nw R i (o :: rest) a :=
  calm_step v hi hw (fun σ w hS K Q hK => by unfold Oper.wp; rw [h1 σ w hS]; exact hK w hS) h
theorem calm_call {v : Value} {f : FuncId} {args : Array Value} (hi : i ∉ nw) (hw : Region.wanted o (yielded ops a.tmps) = true) (hr : ∀ w, (execOp a.eval o).run P w = .ok (.enter f args) w)
    (hc : ∀ σ w, S σ w → Calls P f args w fun e w' => e = .returned v ∧ S σ w') (h : calm P ops S nw R (i + 1) rest (a.put o.dst v)) : calm P ops S nw R i (o :: rest) a :=
  calm_step v hi hw (fun σ w hS K Q hK => by
    unfold Oper.wp
    rw [hr w]
    refine (hc σ w hS).mono ?_
    rintro e w' ⟨rfl, hS'⟩
    exact hK w' hS') h
end

/-- What a new variable is. -/
def newP (o : Obj) : Option Value → List Piece
  | none => []
  | some v => [fun h => ∃ g, v = .pointer (some ⟨g, 0, none⟩) ∧ h = [(g, o)]]

theorem Own.skip {w0 w : World} {qs ps : List Piece} (h : Own w0 w (qs ++ ps)) : Own w0 w ps := by
  induction qs with
  | nil => exact h
  | cons q qs ih => exact ih h.drop
theorem Own.newp {w0 w : World} {o : Obj} {v : Value} {ps : List Piece} (h : Own w0 w (newP o (some v) ++ ps)) : ∃ g, v = .pointer (some ⟨g, 0, none⟩) ∧ Own w0 w (blk g o :: ps) := by
  obtain ⟨hb, x, ⟨g, hv, hx⟩, r⟩ := h
  exact ⟨g, hv, hb, x, hx, r⟩

section
variable {P : Program} {ops : Array Oper} {nw : List Nat} {R : Act → Prop} {a : Act} {o : Oper} {rest : List Oper} {i : Nat} {w0 : World} {ps : List Piece}
theorem calm_alloc {obj : Obj} (hi : i ∈ nw) (hr : ∀ w, (execOp a.eval o).run P w = .ok (.value (.pointer (some ⟨w.heap.size, 0, none⟩))) (w.alloc obj))
    (h : calm P ops (fun σ w => Own w0 w (newP obj (σ i) ++ ps)) nw R (i + 1) rest a) : calm P ops (fun σ w => Own w0 w (newP obj (σ i) ++ ps)) nw R i (o :: rest) a :=
  calm_new hi (fun σ w hS K Q hK => by
    unfold Oper.wp
    rw [hr w]
    refine hK _ _ ?_
    have hs : (σ.upd i (.pointer (some ⟨w.heap.size, 0, none⟩))) i = some (.pointer (some ⟨w.heap.size, 0, none⟩)) := by simp [Sig.upd]
    show Own w0 _ (newP obj ((σ.upd i _) i) ++ ps)
    rw [hs]
    exact (hS.skip.alloc obj).imp fun x hx => ⟨_, rfl, hx⟩) h

/-- What a new row is. -/
def newR (o : Obj) (n : Nat) : Option Value → List Piece
  | none => []
  | some v => [fun h => ∃ g, v = .slice (some ⟨g, 0, none⟩) n n ∧ h = [(g, o)]]
theorem Own.newr {w0 w : World} {o : Obj} {n : Nat} {v : Value} {ps : List Piece} (h : Own w0 w (newR o n (some v) ++ ps)) : ∃ g, v = .slice (some ⟨g, 0, none⟩) n n ∧ Own w0 w (blk g o :: ps) := by
  obtain ⟨hb, x, ⟨g, hv, hx⟩, r⟩ := h
  exact ⟨g, hv, hb, x, hx, r⟩
theorem calm_row {obj : Obj} {n : Nat} (hi : i ∈ nw) (hr : ∀ w, (execOp a.eval o).run P w = .ok (.value (.slice (some ⟨w.heap.size, 0, none⟩) n n)) (w.alloc obj))
    (h : calm P ops (fun σ w => Own w0 w (newR obj n (σ i) ++ ps)) nw R (i + 1) rest a) : calm P ops (fun σ w => Own w0 w (newR obj n (σ i) ++ ps)) nw R i (o :: rest) a :=
  calm_new hi (fun σ w hS K Q hK => by
    unfold Oper.wp
    rw [hr w]
    refine hK _ _ ?_
    have hs : (σ.upd i (.slice (some ⟨w.heap.size, 0, none⟩) n n)) i = some (.slice (some ⟨w.heap.size, 0, none⟩) n n) := by simp [Sig.upd]
    show Own w0 _ (newR obj n ((σ.upd i _) i) ++ ps)
    rw [hs]
    exact (hS.skip.alloc obj).imp fun x hx => ⟨_, rfl, hx⟩) h
end
end Go.Proofs.Ytfeamlbkogigkaa
