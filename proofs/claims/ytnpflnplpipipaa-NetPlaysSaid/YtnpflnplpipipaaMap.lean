/-
  A map of the call's own whose elements are ints (0 where there is none): a look-up, a store, a delete. No program in sight.
-/
import Derived.Test.YtnpflnplpipipaaSt
import Derived.Maps.Own
import Derived.Maps.OwnOps
import Derived.Maps.Views
namespace Go.Proofs.Ytnpflnplpipipaa
open Go.RowKit Go.Maps
open Go.WideElems (Fit rg)

/-- The entries, as a datum. -/
def mdat (P : Program) (K E : TypeId) (es : Array MapEntry) : DataW Unit := .map ((es.toList.map (rg P K (plainElem (H := Unit) P E))).foldr DataW.insert [])
/-- A map: by its keys (those that a's are), ints; at most n entries. -/
def mpi (P : Program) (K E : TypeId) {α : Type} (enc : α → Value) (b n : Nat) (g : α → Int) : Piece := fun h =>
  ∃ es clock, h = [(b, .map es clock)] ∧ Fit P K (plainElem (H := Unit) P E) es clock ∧ es.size ≤ n ∧ ∀ a kl, keyOf P K (enc a) = some kl → (mdat P K E es).atKey kl (.lit (.int .i64 0)) = .lit (.int .i64 (g a))

section
variable {P : Program} {K E t : TypeId} {α : Type} {enc : α → Value} {b n : Nat} {g : α → Int} {w0 w : World} {ps : List Piece}
theorem Own.mpi_open (h : Own w0 w (mpi P K E enc b n g :: ps)) : ∃ es clock, Fit P K (plainElem (H := Unit) P E) es clock ∧ es.size ≤ n ∧ (∀ a kl, keyOf P K (enc a) = some kl → (mdat P K E es).atKey kl (.lit (.int .i64 0)) = .lit (.int .i64 (g a))) ∧ Own w0 w (blk b (.map es clock) :: ps) := by
  obtain ⟨hb, x, ⟨es, clock, rfl, h1, h2, h3⟩, r⟩ := h
  exact ⟨es, clock, h1, h2, h3, hb, _, rfl, r⟩
theorem Own.mpi_shut {es : Array MapEntry} {clock : Nat} (h1 : Fit P K (plainElem (H := Unit) P E) es clock) (h2 : es.size ≤ n) (h3 : ∀ a kl, keyOf P K (enc a) = some kl → (mdat P K E es).atKey kl (.lit (.int .i64 0)) = .lit (.int .i64 (g a)))
    (h : Own w0 w (blk b (.map es clock) :: ps)) : Own w0 w (mpi P K E enc b n g :: ps) := by
  obtain ⟨hb, x, rfl, r⟩ := h
  exact ⟨hb, _, ⟨es, clock, rfl, h1, h2, h3⟩, r⟩
theorem Own.mpi_new (h : Own w0 w ps) : Own w0 (w.alloc (.map #[] 0)) (mpi P K E enc w.heap.size 0 (fun _ => 0) :: ps) := by
  obtain ⟨es, clock, hb, F, hs, hD⟩ := World.ownsMap_made (H := Unit) w P K (plainElem P E)
  have hb' : (w.alloc (.map #[] 0)).heap[w.heap.size]? = some (.map #[] 0) := heap_alloc_new w _
  rw [hb'] at hb
  cases hb
  refine (h.alloc (.map #[] 0)).mpi_shut F (Nat.le_refl _) fun a kl _ => ?_
  unfold mdat
  rw [← hD]
  rfl
theorem mpi_lookup (h : Own w0 w (mpi P K E enc b n g :: ps)) (hK : Keyed P K) (ht : P.underlying t = some (.map K E)) (he : P.underlying E = some (.int .i64)) (hz : (zeroValue E).run P w = .ok (.int .i64 0) w)
    {a : α} {kl : Lit} (hkey : keyOf P K (enc a) = some kl) : (Instr.lookup t (.map (some b)) (enc a) false).run P w = .ok (.int .i64 (g a)) w := by
  obtain ⟨es, clock, F, hs, hg, h⟩ := h.mpi_open
  have hown : w.ownsMap P K (plainElem (H := Unit) P E) b n (mdat P K E es) := ⟨es, clock, h.block.1, F, hs, rfl⟩
  obtain ⟨c, hrun, hat, _⟩ := hown.lookup_int hK ht he hz hkey
  rw [hg a kl hkey] at hat
  cases hat
  exact hrun
variable [DecidableEq α]
theorem mpi_update (h : Own w0 w (mpi P K E enc b n g :: ps)) (hK : Keyed P K) (ht : P.underlying t = some (.map K E)) (he : P.underlying E = some (.int .i64)) (hn : n < 9223372036854775807) (henc : ∀ x y, enc x = enc y → x = y)
    {a : α} {kl : Lit} (hkey : keyOf P K (enc a) = some kl) {c : Int} (hc : -9223372036854775808 ≤ c ∧ c ≤ 9223372036854775807) :
    ∃ w', (Instr.mapUpdate t (.map (some b)) (enc a) (.int .i64 c)).run P w = .ok () w' ∧ Own w0 w' (mpi P K E enc b (n + 1) (fun x => if x = a then c else g x) :: ps) := by
  obtain ⟨es, clock, F, hs, hg, h⟩ := h.mpi_open
  have hown : w.ownsMap P K (plainElem (H := Unit) P E) b n (mdat P K E es) := ⟨es, clock, h.block.1, F, hs, rfl⟩
  have hwf : (Lit.int .i64 c).wf = true := WalkArith.wf_i64 (by omega)
  obtain ⟨w', hrun, ⟨es', clock', hb', F', hs', hD⟩, hgr⟩ := hown.update hK ht (by unfold maxLen; omega) hkey (plainElem_int he hwf)
  refine ⟨w', hrun, Own.mpi_shut F' hs' (fun x kx hx => ?_) (h.turn hgr.os hgr.tape hgr.output hgr.size hb' fun k hk hne => hgr.block k hk (by simpa using hne))⟩
  show (DataW.map _).atKey kx _ = _
  rw [← hD]
  by_cases hxa : x = a
  · subst hxa
    rw [hkey] at hx
    cases hx
    rw [if_pos rfl]
    exact atKey_put_same ⟨_, rfl⟩ (hK.key hkey) _ _
  · rw [if_neg hxa, atKey_put_other]
    · exact hg x kx hx
    · rintro rfl
      exact hxa (henc _ _ (hK.inj hx hkey))
theorem mpi_delete {ty : TypeId} (h : Own w0 w (mpi P K E enc b n g :: ps)) (hK : Keyed P K) (ht : P.underlying t = some (.map K E)) (henc : ∀ x y, enc x = enc y → x = y)
    {a : α} {kl : Lit} (hkey : keyOf P K (enc a) = some kl) :
    ∃ w', (Builtin.delete_ #[t, K] ty #[.map (some b), enc a]).run P w = .ok (.tuple #[]) w' ∧ Own w0 w' (mpi P K E enc b n (fun x => if x = a then 0 else g x) :: ps) := by
  obtain ⟨es, clock, F, hs, hg, h⟩ := h.mpi_open
  obtain ⟨es', hrun, F', hs', hD, _⟩ := fit_drop (ty := ty) hK ht h.block.1 F hkey
  refine ⟨_, hrun, Own.mpi_shut F' (Nat.le_trans hs' hs) (fun x kx hx => ?_) (h.turn rfl rfl rfl (by simp [Go.ChangeMaps.setBlock]) (Go.ChangeMaps.heap_setBlock_same h.block.1 _) fun k hk hne => Go.ChangeMaps.heap_setBlock_other h.block.1 _ hne)⟩
  have hput : mdat P K E es' = (mdat P K E es).del kl := by
    unfold mdat
    rw [hD]
    rfl
  rw [hput]
  by_cases hxa : x = a
  · subst hxa
    rw [hkey] at hx
    cases hx
    rw [if_pos rfl]
    exact atKey_del_same _
  · rw [if_neg hxa, atKey_del_other]
    · exact hg x kx hx
    · rintro rfl
      exact hxa (henc _ _ (hK.inj hx hkey))
end

section
variable {P : Program} {K E t : TypeId} {α : Type} {enc : α → Value} {b n : Nat} {g : α → Int} {w0 w : World} {ps : List Piece} [DecidableEq α]
variable {ops : Array Oper} {rest : List Oper} {o : Oper} {act : Act} {Q : Exit → Act → World → Prop}
/-- 'm[k] = v' in a walk. -/
theorem wpList_update_mpi (hgd : o.guard = none) (m x v : Operand) (hop : o.op = .mapUpdate t m x v) (H : Own w0 w (mpi P K E enc b n g :: ps)) (hK : Keyed P K) (ht : P.underlying t = some (.map K E)) (he : P.underlying E = some (.int .i64)) (hn : n < 9223372036854775807) (henc : ∀ x y, enc x = enc y → x = y)
    (hm : act.eval m = .map (some b)) {a : α} (hx : act.eval x = enc a) {kl : Lit} (hkey : keyOf P K (enc a) = some kl) {c : Int} (hv : act.eval v = .int .i64 c) (hc : -9223372036854775808 ≤ c ∧ c ≤ 9223372036854775807)
    (h : ∀ w', Own w0 w' (mpi P K E enc b (n + 1) (fun x => if x = a then c else g x) :: ps) → wpList P ops Q rest (act.put o.dst undef) w') : wpList P ops Q (o :: rest) act w := by
  refine wpList_plain hgd fun K' hK' => ?_
  obtain ⟨w', hrun, h2⟩ := mpi_update H hK ht he hn henc hkey hc
  unfold Oper.wp
  simp [execOp, hop, hm, hx, hv, hrun, Result.andThen]
  exact hK' _ _ (h w' h2)
end
end Go.Proofs.Ytnpflnplpipipaa
