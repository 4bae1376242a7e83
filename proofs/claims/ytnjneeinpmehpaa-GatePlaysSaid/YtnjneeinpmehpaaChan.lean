/-
  Channels in a plain walk ('Code.wp'): a region with one communication; the channel's block as a piece of what a call owns. No program in sight.
-/
import Derived.Test.YtnjneeinpmehpaaSt
import Derived.Conc.LoneSelect
import Derived.Conc.LoneSelectN
namespace Go.Proofs.Ytnjneeinpmehpaa
open Go.RowKit Go.Conc

/-- What is left of a region is done. -/
def RegTo (P : Program) (ops : Array Oper) (Q : Exit → Act → World → Prop) (l : List Nat) (a : Act) (w : World) : Prop :=
  ∀ (b : Frame) (k : List Item) (cs : List Frame), ∃ e a' w', Q e a' w' ∧ Arrives P (Go.lone (b.at a (.inRegion ops l :: k)) cs w) b k cs e a' w'

section
variable {P : Program} {ops : Array Oper} {Q : Exit → Act → World → Prop} {a : Act} {w : World} {i : Nat} {l : List Nat} {o : Oper} {id : Nat}

theorem wp_region_to (h : RegTo P ops Q (List.range ops.size) a w) : (Code.region id ops false).wp P Q a w :=
  fun b k cs => let ⟨e, a', w', q, r⟩ := h b k cs; ⟨e, a', w', q, .of_steps (.one step_region) r⟩
theorem RegTo.value {v : Value} {w' : World} (ho : ops[i]? = some o) (hw : Region.wanted o (yielded ops a.tmps) = true) (hr : (execOp a.eval o).run P w = .ok (.value v) w')
    (h : RegTo P ops Q l (a.put o.dst v) w') : RegTo P ops Q (i :: l) a w := by
  intro b k cs
  obtain ⟨e, a', w'', hq, harr⟩ := h b k cs
  refine ⟨e, a', w'', hq, .of_steps (.one (step_lone_go ?_)) harr⟩
  have hfin : (b.at a (.inRegion ops (i :: l) :: k)).finish v = b.at (a.put o.dst v) (.inRegion ops l :: k) := by rw [Frame.finish_at, ho]; rfl
  rw [stepG_op ho hw, ← hfin]
  simp [stepG.apply, hr]
theorem stepG_comm_any {b : Frame} {k : List Item} {cs : List Frame} {cases : Array CommCase} {blocking : Bool} {shape : CommShape} {w' : World} (ho : ops[i]? = some o) (hw : Region.wanted o (yielded ops a.tmps) = true)
    (hr : (execOp a.eval o).run P w = .ok (.comm cases blocking shape) w') :
    ∃ es, stepG P true (Conc.G (b.at a (.inRegion ops (i :: l) :: k)) cs) w = .comm (Conc.G (b.at a (.inRegion ops (i :: l) :: k)) cs) cases blocking shape w' es := by
  have h1 := stepG_op (P := P) (b := b) (k := k) (cs := cs) (w := w) (rest := l) ho hw
  simp only [stepG.apply, Sem.runT_eq, hr, GStep.after] at h1
  exact ⟨_, h1⟩
/-- A communication. -/
theorem RegTo.comm {v : Value} {w' w1 : World} {cases : Array CommCase} {blocking : Bool} {shape : CommShape} (ho : ops[i]? = some o) (hw : Region.wanted o (yielded ops a.tmps) = true)
    (hr : (execOp a.eval o).run P w = .ok (.comm cases blocking shape) w1)
    (hs : ∀ (fr : Frame) (cs : List Frame) (es : Array Event), stepG P true (Conc.G fr cs) w = .comm (Conc.G fr cs) cases blocking shape w1 es → step P (solo (Conc.G fr cs) w) = .next (solo (Conc.G (fr.finish v) cs) w'))
    (h : RegTo P ops Q l (a.put o.dst v) w') : RegTo P ops Q (i :: l) a w := by
  intro b k cs
  obtain ⟨e, a', w'', hq, harr⟩ := h b k cs
  obtain ⟨es, he⟩ := stepG_comm_any (P := P) (b := b) (k := k) (cs := cs) (l := l) ho hw hr
  have hst := hs _ _ _ he
  have hfin : (b.at a (.inRegion ops (i :: l) :: k)).finish v = b.at (a.put o.dst v) (.inRegion ops l :: k) := by rw [Frame.finish_at, ho]; rfl
  rw [hfin] at hst
  exact ⟨e, a', w'', hq, .of_steps (.one hst) harr⟩
theorem RegTo.list {m : Nat} (h : wpList P ops Q (ops.toList.drop m) a w) : RegTo P ops Q (List.range' m (ops.size - m)) a w := by
  refine wp_ops _ a w ?_
  have e : ops.size - m = (ops.toList.drop m).length := by simp
  rw [e, wpOps_eq_wpList (ops.toList.drop m) m (fun j => by simp)]
  exact h
/-- A region that begins with a communication. -/
theorem wp_region_comm {rest : List Oper} {v : Value} {w' w1 : World} {cases : Array CommCase} {blocking : Bool} {shape : CommShape} (hg : o.guard = none)
    (hr : (execOp a.eval o).run P w = .ok (.comm cases blocking shape) w1)
    (hs : ∀ (fr : Frame) (cs : List Frame) (es : Array Event), stepG P true (Conc.G fr cs) w = .comm (Conc.G fr cs) cases blocking shape w1 es → step P (solo (Conc.G fr cs) w) = .next (solo (Conc.G (fr.finish v) cs) w'))
    (h : wpList P (o :: rest).toArray Q rest (a.put o.dst v) w') : (Code.region id (o :: rest).toArray false).wp P Q a w := by
  refine wp_region_to ?_
  have e : List.range (o :: rest).toArray.size = 0 :: List.range' 1 ((o :: rest).toArray.size - 1) := by simp [List.range_eq_range', List.range'_succ]
  rw [e]
  exact RegTo.comm (by simp) (by simp [Region.wanted, hg]) hr hs (RegTo.list (m := 1) (by simpa using h))
end

section
variable {w0 w w' : World} {p q : Piece} {ps qs : List Piece}
/-- A channel of the call's own: its room, what is in it, whether it is shut. -/
def chn (c cap : Nat) (buf : List Value) (shut : Bool) : Piece := ex fun sr : Nat × Nat => blk c (.chan cap buf.toArray shut sr.1 sr.2 false)
theorem Own.setChan {c cap cap' : Nat} {buf buf' : Array Value} {cl cl' : Bool} {s r s' r' : Nat} {tm tm' : Bool} (h : Own w0 w (blk c (.chan cap buf cl s r tm) :: ps)) :
    Own w0 (w.setChan c cap' buf' cl' s' r' tm') (blk c (.chan cap' buf' cl' s' r' tm') :: ps) :=
  h.turn rfl rfl rfl (by simp [World.setChan]) (heap_setChan _ _ _ _ _ _ _ _ (Array.getElem?_eq_some_iff.1 h.block.1).1) (fun k _ hk => by simp only [World.setChan]; rw [Array.getElem?_setIfInBounds_ne (Ne.symm hk)])
theorem Own.chn {c cap : Nat} {buf : List Value} {cl : Bool} (h : Own w0 w (chn c cap buf cl :: ps)) : ∃ s r, Own w0 w (blk c (.chan cap buf.toArray cl s r false) :: ps) := by
  obtain ⟨⟨s, r⟩, h⟩ := h.ex
  exact ⟨s, r, h⟩
theorem Own.unchn {c cap s r : Nat} {buf : List Value} {cl : Bool} (h : Own w0 w (blk c (.chan cap buf.toArray cl s r false) :: ps)) : Own w0 w (Go.Proofs.Ytnjneeinpmehpaa.chn c cap buf cl :: ps) :=
  Own.unex (f := fun sr : Nat × Nat => blk c (.chan cap buf.toArray cl sr.1 sr.2 false)) (s, r) h
end
end Go.Proofs.Ytnjneeinpmehpaa
