/-
  'm[k] = v' in two halves (an entry is laid, then stored), a delete: on a map of ints of the call's own. No program in sight.
-/
import Derived.Test.YtnpflnplpipipaaMapC
import Derived.WideKeyEntry
namespace Go.Proofs.Ytnpflnplpipipaa
open Go.RowKit Go.Maps
open Go.ChangeMaps (setBlock heap_setBlock_same heap_setBlock_other)
open Go.WideMaps (KeyLaw)
open Go.WideElems (Fit)
open Go.ChangeMaps (modify_eq_set)

section
variable {P : Program} {K E t : TypeId} {α : Type} {enc : α → Value} {b n : Nat} {g : α → Int} {w0 w : World} {ps : List Piece} [DecidableEq α]
theorem entry_is_update {R : Value → Option (DataW Unit × List MemPlace)} {es : Array MapEntry} {clock : Nat} (KL : KeyLaw P K) (ht : P.underlying t = some (.map K E)) {z : Value} (hz : ∀ u : World, (zeroValue E).run P u = .ok z u) (hb : w.heap[b]? = some (.map es clock)) (F : Fit P K R es clock)
    {key : Value} {kl : Lit} (hkey : keyOf P K key = some kl) :
    ∃ (v0 : Value) (st : Nat) (w1 : World), (Instr.mapEntry t (.map (some b)) key).run P w = .ok (.tuple #[v0, goInt st]) w1 ∧ (Instr.mapUpdate t (.map (some b)) key v0).run P w = .ok () w1 ∧ (Instr.lookup t (.map (some b)) key false).run P w = .ok v0 w := by
  rcases KL.find w hkey es.toList F.keys with ⟨h1, h2⟩ | ⟨j, e0, h1, h2, h3⟩
  · refine ⟨z, clock, setBlock w b (.map (es.push ⟨key, z, clock⟩) (clock + 1)), ?_, ?_, ?_⟩
    rotate_left
    · simp [Instr.mapUpdate, run_underlying ht, MapKept.run_getObj_map hb, KL.check w false hkey, h1, MapKept.run_setObj_map _ hb, Result.andThen, setBlock]
    · simp [Instr.lookup, run_underlying ht, MapKept.run_getObj_map hb, KL.check w es.isEmpty hkey, h1, hz, Result.andThen]
    · simp [Instr.mapEntry, run_underlying ht, MapKept.run_getObj_map hb, KL.check w false hkey, h1, hz, MapKept.run_setObj_map _ hb, Result.andThen, setBlock]
  · have hj : es[j]? = some e0 := by simpa using h2
    have hsame : es.modify j (fun e => { e with key := key }) = es := by
      apply Array.ext'
      rw [Array.toList_modify, modify_eq_set _ _ _ _ h2]
      have : ({ e0 with key := key } : MapEntry) = e0 := by rw [← h3]
      rw [this]
      exact Go.WideElems.set_self _ _ _ h2
    have hsame2 : es.modify j (fun e => { e with key := key, val := e0.val }) = es := by
      apply Array.ext'
      rw [Array.toList_modify, modify_eq_set _ _ _ _ h2]
      have : ({ e0 with key := key, val := e0.val } : MapEntry) = e0 := by rw [← h3]
      rw [this]
      exact Go.WideElems.set_self _ _ _ h2
    refine ⟨e0.val, e0.born, setBlock w b (.map es clock), ?_, ?_, ?_⟩
    rotate_left
    · simp [Instr.mapUpdate, run_underlying ht, MapKept.run_getObj_map hb, KL.check w false hkey, h1, hj, h3, KL.stays w hkey, hsame2, MapKept.run_setObj_map _ hb, Result.andThen, setBlock]
    · simp [Instr.lookup, run_underlying ht, MapKept.run_getObj_map hb, KL.check w es.isEmpty hkey, h1, Result.andThen]
    · simp [Instr.mapEntry, run_underlying ht, MapKept.run_getObj_map hb, KL.check w false hkey, h1, hj, h3, KL.stays w hkey, hsame, MapKept.run_setObj_map _ hb, Result.andThen, setBlock]
theorem mpi_entry (H : Own w0 w (mpi P K E enc b n g :: ps)) (hL : KeyLaw P K) (ht : P.underlying t = some (.map K E)) (he : P.underlying E = some (.int .i64)) (hz : ∀ u : World, (zeroValue E).run P u = .ok (.int .i64 0) u)
    (hn : n < 9223372036854775807) (henc : ∀ x y, enc x = enc y → x = y) {a : α} {kl : Lit} (hkey : keyOf P K (enc a) = some kl) (hg : -9223372036854775808 ≤ g a ∧ g a ≤ 9223372036854775807) :
    ∃ (st : Nat) (w1 : World), (Instr.mapEntry t (.map (some b)) (enc a)).run P w = .ok (.tuple #[.int .i64 (g a), goInt st]) w1 ∧ Own w0 w1 (mpi P K E enc b (n + 1) g :: ps) ∧
      ∀ (c : Int), -9223372036854775808 ≤ c ∧ c ≤ 9223372036854775807 →
        ∃ w3, (Instr.entryStore t (.map (some b)) (goInt st) (.int .i64 c)).run P w1 = .ok () w3 ∧ Own w0 w3 (mpi P K E enc b (n + 1) (fun x => if x = a then c else g x) :: ps) := by
  have H0 := H
  obtain ⟨es, clock, F, hs, _, h⟩ := H.mpi_open
  obtain ⟨v0, st, es1, clock1, hr1, _, hnext⟩ := Go.WideElems.entry_then_store hL ht hz h.block.1 F hkey
  obtain ⟨v0', st', w1, hr2, hmu, hlk⟩ := entry_is_update hL ht hz h.block.1 F hkey
  rw [hr1] at hr2
  have e0 := congrArg (fun r => match r with | Result.ok (.tuple x) w => (x[0]?, x[1]?, w) | _ => (none, none, default)) hr2
  simp at e0
  obtain ⟨rfl, e1, rfl⟩ := e0
  rw [mpi_lookup H0 (Keyed.of_law hL) ht he (hz w) hkey] at hlk
  have e2 : Value.int .i64 (g a) = v0 := by injection hlk
  subst e2
  obtain ⟨w1', hrun1, HU1⟩ := mpi_update H0 (Keyed.of_law hL) ht he hn henc hkey hg
  rw [hmu] at hrun1
  cases hrun1
  have hsame : (fun x => if x = a then g a else g x) = g := by
    funext x
    split
    · next e => rw [e]
    · rfl
  rw [hsame] at HU1
  refine ⟨st, _, hr1, HU1, fun c hc => ?_⟩
  obtain ⟨es', clock', hst, hmu2⟩ := hnext _ (.int .i64 c) (heap_setBlock_same h.block.1 _)
  obtain ⟨w', hrun, HU⟩ := mpi_update H0 (Keyed.of_law hL) ht he hn henc hkey hc
  rw [hmu2] at hrun
  cases hrun
  have hb1 : (setBlock w b (.map es1 clock1)).heap[b]? = some (.map es1 clock1) := heap_setBlock_same h.block.1 _
  have hss : setBlock (setBlock w b (.map es1 clock1)) b (.map es' clock') = setBlock w b (.map es' clock') := by
    simp [setBlock]
  exact ⟨_, hst, by rw [hss]; exact HU⟩
variable {ops : Array Oper} {rest : List Oper} {o : Oper} {act : Act} {Q : Exit → Act → World → Prop}
theorem wpList_estore_mpi {st : Nat} {a : α} (hgd : o.guard = none) (m x v : Operand) (hop : o.op = .entryStore t m x v)
    (hE : Hid (∀ (c : Int), -9223372036854775808 ≤ c ∧ c ≤ 9223372036854775807 →
        ∃ w3, (Instr.entryStore t (.map (some b)) (goInt st) (.int .i64 c)).run P w = .ok () w3 ∧ Own w0 w3 (mpi P K E enc b (n + 1) (fun x => if x = a then c else g x) :: ps)))
    (hm : act.eval m = .map (some b)) (hx : act.eval x = goInt st) {c : Int} (hv : act.eval v = .int .i64 c) (hc : -9223372036854775808 ≤ c ∧ c ≤ 9223372036854775807)
    (h : ∀ w', Own w0 w' (mpi P K E enc b (n + 1) (fun x => if x = a then c else g x) :: ps) → wpList P ops Q rest (act.put o.dst undef) w') : wpList P ops Q (o :: rest) act w := by
  refine wpList_plain hgd fun K' hK' => ?_
  obtain ⟨w', hrun, h2⟩ := hE.out c hc
  unfold Oper.wp
  simp [execOp, hop, hm, hx, hv, hrun, Result.andThen]
  exact hK' _ _ (h w' h2)
/-- 'delete(m, k)' in a walk. -/
theorem wpList_delete_mpi (hgd : o.guard = none) (m x : Operand) (hop : o.op = .call { callee := .builtin .delete, args := #[m, x], argTypes := #[t, K] }) (H : Own w0 w (mpi P K E enc b n g :: ps)) (hK : Keyed P K) (ht : P.underlying t = some (.map K E)) (henc : ∀ x y, enc x = enc y → x = y)
    (hm : act.eval m = .map (some b)) {a : α} (hx : act.eval x = enc a) {kl : Lit} (hkey : keyOf P K (enc a) = some kl)
    (h : ∀ w', Own w0 w' (mpi P K E enc b n (fun x => if x = a then 0 else g x) :: ps) → wpList P ops Q rest (act.put o.dst (.tuple #[])) w') : wpList P ops Q (o :: rest) act w := by
  refine wpList_plain hgd fun K' hK' => ?_
  obtain ⟨w', hrun, h2⟩ := mpi_delete (ty := o.type) H hK ht henc hkey
  unfold Oper.wp execOp
  simp only [hop, resolve, invoke, builtin, Sem.run_bind, Sem.run_pure, Result.andThen_ok, List.map_toArray, List.map_cons, List.map_nil, hm, hx, hrun]
  exact hK' _ _ (h w' h2)
end
end Go.Proofs.Ytnpflnplpipipaa
