/-
  Stores into blocks and slices of the call's own, in a walk: behind each the world is a variable. No program in sight.
-/
import Derived.Test.YtfeamlbkogigkaaApp
namespace Go.Proofs.Ytfeamlbkogigkaa
open Go.RowKit

section
variable {w0 w w' : World} {p q : Piece} {ps qs : List Piece} {e : TypeId} {size n : Nat} {v : Value} {xs : List Value}
variable {P : Program} {t ty : TypeId} {ops : Array Oper} {rest : List Oper} {o : Oper} {a : Act} {Q : Exit → Act → World → Prop}

theorem run_storeAt_row {g off : Nat} {cur : Array Value} {e : TypeId} (x : Value) (hg : w.heap[g]? = some (.cells cur e (0, 0))) (hi : (P.info? ty).map (·.size) = some x.cells.size) (hfit : off + x.cells.size ≤ cur.size) (h1 : ∀ u ∈ x.cells.toList, u.oneCell' = true) :
    (Instr.storeAt ty (.pointer (some ⟨g, off, none⟩)) x).run P w = .ok () (w.setRow g (cur.toList.take off ++ x.cells.toList ++ cur.toList.drop (off + x.cells.size)).toArray) := by
  have hst := run_storeCells_at P g off e x.cells.toList 0 cur w hg (by simpa using hfit) h1
  simp only [Nat.add_zero, Array.length_toList] at hst
  cases hq : P.info? ty with
  | none => simp [hq] at hi
  | some i =>
    have hs : x.cells.size = i.size := by simp [hq] at hi; omega
    simp [Instr.storeAt, Instr.sureAddr, storeVar, sizeOf, typeInfo, hq, hs]
    rw [← hs]
    simpa using hst

theorem Own.setRow {g : Nat} {cur cur' : Array Value} {fr : Nat × Nat} (h : Own w0 w (blk g (.cells cur e fr) :: ps)) : Own w0 (w.setRow g cur') (blk g (.cells cur' e fr) :: ps) :=
  h.turn rfl rfl rfl (by simp [World.setRow]) (setRow_heap w g cur _ e _ h.block.1) (fun k _ hk => setRow_other w g k _ hk)

/-- A store into a block: 'cur'' is what it then holds. -/
theorem wpList_store_blk (hgd : o.guard = none) (x y : Operand) (ho : o.op = .store ty x y) {g off : Nat} {cur : Array Value} (hx : a.eval x = .pointer (some ⟨g, off, none⟩))
    (H : Own w0 w (blk g (.cells cur e) :: ps)) (vs : List Value) (hv : (a.eval y).cells.toList = vs) (hi : (P.info? ty).map (·.size) = some vs.length) (hfit : off + vs.length ≤ cur.size) (h1 : ∀ u ∈ vs, u.oneCell' = true)
    (cur' : Array Value) (hc : (cur.toList.take off ++ vs ++ cur.toList.drop (off + vs.length)).toArray = cur')
    (h : ∀ w', Own w0 w' (blk g (.cells cur' e) :: ps) → wpList P ops Q rest (a.put o.dst undef) w') : wpList P ops Q (o :: rest) a w := by
  refine wpList_plain hgd fun K hK => ?_
  have hl : vs.length = (a.eval y).cells.size := by rw [← hv]; simp
  have hr := run_storeAt_row (P := P) (ty := ty) (a.eval y) H.block.1 (by rw [hi, hl]) (by rw [← hl]; exact hfit) (by rw [hv]; exact h1)
  rw [hv, ← hl, hc] at hr
  unfold Oper.wp execOp
  simp only [ho, hx, Sem.run_bind, Sem.run_pure, Result.andThen_ok, hr]
  exact hK _ _ (h _ H.setRow)

/-- A whole struct (or array) is stored. -/
theorem wpList_store_agg (hgd : o.guard = none) (x y : Operand) (ho : o.op = .store ty x y) {g off : Nat} {cur : Array Value} (hx : a.eval x = .pointer (some ⟨g, off, none⟩))
    (H : Own w0 w (blk g (.cells cur e) :: ps)) {vs : List Value} (hv : a.eval y = .agg vs.toArray) (hi : (P.info? ty).map (·.size) = some vs.length) (hfit : off + vs.length ≤ cur.size) (h1 : ∀ u ∈ vs, u.oneCell' = true)
    {cur' : Array Value} (hc : (cur.toList.take off ++ vs ++ cur.toList.drop (off + vs.length)).toArray = cur')
    (h : ∀ w', Own w0 w' (blk g (.cells cur' e) :: ps) → wpList P ops Q rest (a.put o.dst undef) w') : wpList P ops Q (o :: rest) a w :=
  wpList_store_blk hgd x y ho hx H vs (by rw [hv]; simp [Value.cells]) hi hfit h1 cur' hc h
/-- A value of one cell is stored. -/
theorem wpList_store_one (hgd : o.guard = none) (x y : Operand) (ho : o.op = .store ty x y) {g off : Nat} {cur : Array Value} (hx : a.eval x = .pointer (some ⟨g, off, none⟩))
    (H : Own w0 w (blk g (.cells cur e) :: ps)) {u : Value} (hv : a.eval y = u) (hu : u.cells = #[u]) (hi : (P.info? ty).map (·.size) = some 1) (hfit : off < cur.size) (h1 : u.oneCell' = true)
    {cur' : Array Value} (hc : cur.setIfInBounds off u = cur')
    (h : ∀ w', Own w0 w' (blk g (.cells cur' e) :: ps) → wpList P ops Q rest (a.put o.dst undef) w') : wpList P ops Q (o :: rest) a w :=
  wpList_store_blk hgd x y ho hx H [u] (by rw [hv, hu]) hi (by simp; omega) (by simpa using h1) cur' (by
    rw [← hc, show cur.setIfInBounds off u = (cur.toList.set off u).toArray by apply Array.toList_inj.1; simp, List.set_eq_take_append_cons_drop, if_pos (by simpa using hfit)]
    simp) h

theorem wpList_store_int (hgd : o.guard = none) (x y : Operand) (ho : o.op = .store ty x y) {g off : Nat} {cur : Array Value} (hx : a.eval x = .pointer (some ⟨g, off, none⟩))
    (H : Own w0 w (blk g (.cells cur e) :: ps)) {k : IntKind} {m : Int} (hv : a.eval y = .int k m) (hi : (P.info? ty).map (·.size) = some 1) (hfit : off < cur.size)
    (h : ∀ w', Own w0 w' (blk g (.cells (cur.setIfInBounds off (.int k m)) e) :: ps) → wpList P ops Q rest (a.put o.dst undef) w') : wpList P ops Q (o :: rest) a w :=
  wpList_store_one hgd x y ho hx H hv rfl hi hfit rfl rfl h
theorem wpList_store_bool (hgd : o.guard = none) (x y : Operand) (ho : o.op = .store ty x y) {g off : Nat} {cur : Array Value} (hx : a.eval x = .pointer (some ⟨g, off, none⟩))
    (H : Own w0 w (blk g (.cells cur e) :: ps)) {m : Bool} (hv : a.eval y = .bool m) (hi : (P.info? ty).map (·.size) = some 1) (hfit : off < cur.size)
    (h : ∀ w', Own w0 w' (blk g (.cells (cur.setIfInBounds off (.bool m)) e) :: ps) → wpList P ops Q rest (a.put o.dst undef) w') : wpList P ops Q (o :: rest) a w :=
  wpList_store_one hgd x y ho hx H hv rfl hi hfit rfl rfl h
theorem wpList_store_string (hgd : o.guard = none) (x y : Operand) (ho : o.op = .store ty x y) {g off : Nat} {cur : Array Value} (hx : a.eval x = .pointer (some ⟨g, off, none⟩))
    (H : Own w0 w (blk g (.cells cur e) :: ps)) {m : ByteArray} (hv : a.eval y = .string m) (hi : (P.info? ty).map (·.size) = some 1) (hfit : off < cur.size)
    (h : ∀ w', Own w0 w' (blk g (.cells (cur.setIfInBounds off (.string m)) e) :: ps) → wpList P ops Q rest (a.put o.dst undef) w') : wpList P ops Q (o :: rest) a w :=
  wpList_store_one hgd x y ho hx H hv rfl hi hfit rfl rfl h
theorem wpList_store_ptr (hgd : o.guard = none) (x y : Operand) (ho : o.op = .store ty x y) {g off : Nat} {cur : Array Value} (hx : a.eval x = .pointer (some ⟨g, off, none⟩))
    (H : Own w0 w (blk g (.cells cur e) :: ps)) {m : Option Addr} (hv : a.eval y = .pointer m) (hi : (P.info? ty).map (·.size) = some 1) (hfit : off < cur.size)
    (h : ∀ w', Own w0 w' (blk g (.cells (cur.setIfInBounds off (.pointer m)) e) :: ps) → wpList P ops Q rest (a.put o.dst undef) w') : wpList P ops Q (o :: rest) a w :=
  wpList_store_one hgd x y ho hx H hv rfl hi hfit rfl rfl h
theorem wpList_store_slice (hgd : o.guard = none) (x y : Operand) (ho : o.op = .store ty x y) {g off : Nat} {cur : Array Value} (hx : a.eval x = .pointer (some ⟨g, off, none⟩))
    (H : Own w0 w (blk g (.cells cur e) :: ps)) {m : Option Addr} {l c : Nat} (hv : a.eval y = .slice m l c) (hi : (P.info? ty).map (·.size) = some 1) (hfit : off < cur.size)
    (h : ∀ w', Own w0 w' (blk g (.cells (cur.setIfInBounds off (.slice m l c)) e) :: ps) → wpList P ops Q rest (a.put o.dst undef) w') : wpList P ops Q (o :: rest) a w :=
  wpList_store_one hgd x y ho hx H hv rfl hi hfit rfl rfl h
theorem wpList_store_map (hgd : o.guard = none) (x y : Operand) (ho : o.op = .store ty x y) {g off : Nat} {cur : Array Value} (hx : a.eval x = .pointer (some ⟨g, off, none⟩))
    (H : Own w0 w (blk g (.cells cur e) :: ps)) {m : Option Nat} (hv : a.eval y = .map m) (hi : (P.info? ty).map (·.size) = some 1) (hfit : off < cur.size)
    (h : ∀ w', Own w0 w' (blk g (.cells (cur.setIfInBounds off (.map m)) e) :: ps) → wpList P ops Q rest (a.put o.dst undef) w') : wpList P ops Q (o :: rest) a w :=
  wpList_store_one hgd x y ho hx H hv rfl hi hfit rfl rfl h

/-- A store to an element (one cell wide) of a slice of the call's own. -/
theorem wpList_store_slc (hgd : o.guard = none) (x y : Operand) (ho : o.op = .store ty x y) {g j c : Nat} (hx : a.eval x = .pointer (some ⟨g, j, none⟩))
    (H : Own w0 w (slc e 1 (.slice (some ⟨g, 0, none⟩) n c) n xs :: ps)) (u : Value) (hv : (a.eval y).cells.toList = [u]) (hi : (P.info? ty).map (·.size) = some 1) (hj : j < n) (h1 : u.oneCell' = true)
    (h : ∀ w', Own w0 w' (slc e 1 (.slice (some ⟨g, 0, none⟩) n c) n (xs.set j u) :: ps) → wpList P ops Q rest (a.put o.dst undef) w') : wpList P ops Q (o :: rest) a w := by
  rcases H.slc_cases with ⟨hn, _⟩ | ⟨g', cap, cur, he, hl, c1, c2, c3, c4, h5⟩
  · cases hn
  · cases he
    refine wpList_store_blk hgd x y ho hx h5 [u] hv hi (by simp; omega) (by simpa using h1) _ rfl fun w' h' => h w' ?_
    refine h'.slc_mk (by simpa using hl) c1 c2 ?_ ?_
    · simp; omega
    · have hlen : j < cur.toList.length := by simp; omega
      have hset : cur.toList.take j ++ [u] ++ cur.toList.drop (j + [u].length) = cur.toList.set j u := by
        rw [List.set_eq_take_append_cons_drop, if_pos hlen]; simp
      rw [hset, List.toList_toArray, List.take_set, ← c4]
end
end Go.Proofs.Ytfeamlbkogigkaa
