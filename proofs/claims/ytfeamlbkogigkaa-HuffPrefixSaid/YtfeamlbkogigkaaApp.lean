/-
  append, make, slice literals on slices that the call itself owns ('Own', 'slc'); slices that are only read ('Rd'). No program in sight.
-/
import Derived.Test.YtfeamlbkogigkaaSep
namespace Go.Proofs.Ytfeamlbkogigkaa
open Go.RowKit

/-- A slice that reads as n elements of 'size' cells each, the cells xs. -/
def Rd (w : World) (size : Nat) (v : Value) (n : Nat) (xs : List Value) : Prop :=
  xs.length = n * size ∧ ∃ a c, v = .slice a n c ∧ n ≤ c ∧ c ≤ maxLen ∧ (a = none → n = 0 ∧ c = 0) ∧ ∀ ad, a = some ad → ∀ j u, xs[j]? = some u → w.cell? (ad.add j) = some u

section
variable {w0 w w' : World} {p q : Piece} {ps qs : List Piece} {e : TypeId} {size n : Nat} {v : Value} {xs : List Value}

theorem Rd.nil (w : World) (size : Nat) : Rd w size (.slice none 0 0) 0 [] := ⟨by simp, none, 0, rfl, Nat.le_refl _, by simp [maxLen], fun _ => ⟨rfl, rfl⟩, by simp⟩
theorem Own.rd (h : Own w0 w (slc e size v n xs :: ps)) : Rd w size v n xs := by
  rcases h.slc_cases with ⟨rfl, rfl, rfl, _⟩ | ⟨g, cap, cur, rfl, hl, h1, h2, h3, h4, h5⟩
  · exact Rd.nil w size
  · refine ⟨hl, _, _, rfl, h1, h2, by simp, ?_⟩
    intro ad had j u hu
    obtain rfl := Option.some.inj had
    rw [Addr.add_lit, Nat.zero_add, h5.cell, ← Array.getElem?_toList]
    rw [← h4, List.getElem?_take] at hu
    split at hu
    · exact hu
    · cases hu
/-- What was there before is read as it was. -/
theorem Rd.keep (h : Rd w size v n xs) (hw : ∀ ad : Addr, (w.cell? ad).isSome → w'.cell? ad = w.cell? ad) : Rd w' size v n xs := by
  obtain ⟨hl, a, c, rfl, h1, h2, h3, h4⟩ := h
  refine ⟨hl, a, c, rfl, h1, h2, h3, fun ad had j u hu => ?_⟩
  have := h4 ad had j u hu
  rw [hw _ (by simp [this])]
  exact this
theorem cell_lt {ad : Addr} (h : (w.cell? ad).isSome) : ad.block < w.heap.size := by
  obtain ⟨u, hu⟩ := Option.isSome_iff_exists.1 h
  exact World.block_lt_of_cell? w ad hu
theorem Rd.below (h : Rd w size v n xs) (hb : Below w.heap.size w w') : Rd w' size v n xs := h.keep fun _ had => hb.cell (cell_lt had)
theorem Rd.old (h : Rd w0 size v n xs) (hb : Own w0 w ps) : Rd w size v n xs := h.below hb.below
theorem Rd.len (h : Rd w size v n xs) : xs.length = n * size := h.1
theorem Rd.shape (h : Rd w size v n xs) : ∃ a c, v = .slice a n c ∧ n ≤ c ∧ c ≤ 9223372036854775807 := by
  obtain ⟨_, a, c, rfl, h1, h2, _⟩ := h
  exact ⟨a, c, rfl, h1, by simpa [maxLen] using h2⟩
/-- The place of a slice that has elements. -/
theorem Rd.at (h : Rd w size v n xs) (hn : 0 < xs.length) : ∃ b o c, v = .slice (some ⟨b, o, none⟩) n c ∧ n ≤ c ∧ c ≤ 9223372036854775807 ∧ ∀ j u, xs[j]? = some u → w.cell? ⟨b, o + j, none⟩ = some u := by
  obtain ⟨hl, a, c, rfl, h1, h2, h3, h4⟩ := h
  cases a with
  | none =>
    obtain ⟨rfl, _⟩ := h3 rfl
    rw [hl, Nat.zero_mul] at hn
    exact absurd hn (by omega)
  | some ad =>
    have h0 := h4 ad rfl 0 _ (List.getElem?_eq_getElem hn)
    have hs : ad.spot = none := by simpa [Addr.add] using World.cell?_spot h0
    obtain ⟨b, o, s⟩ := ad
    simp only at hs
    subst hs
    refine ⟨b, o, c, rfl, h1, by simpa [maxLen] using h2, fun j u hu => ?_⟩
    rw [← Addr.add_lit]
    exact h4 _ rfl j u hu

/-- The block of a slice that we own and that has elements. -/
theorem Own.at (h : Own w0 w (slc e size v n xs :: ps)) (hn : 0 < xs.length) : ∃ g c, v = .slice (some ⟨g, 0, none⟩) n c ∧ n ≤ c ∧ c ≤ 9223372036854775807 ∧ w0.heap.size ≤ g ∧ g < w.heap.size ∧ (∀ j u, xs[j]? = some u → w.cell? ⟨g, j, none⟩ = some u) ∧ ∀ j, w.frozen? ⟨g, j, none⟩ = false := by
  rcases h.slc_cases with ⟨rfl, rfl, rfl, _⟩ | ⟨g, cap, cur, rfl, hl, h1, h2, h3, h4, h5⟩
  · simp at hn
  · refine ⟨g, cap, rfl, h1, by simpa [maxLen] using h2, h5.block.2, (Array.getElem?_eq_some_iff.1 h5.block.1).1, fun j u hu => ?_, fun j => h5.free j⟩
    rw [h5.cell, ← Array.getElem?_toList]
    rw [← h4, List.getElem?_take] at hu
    split at hu
    · exact hu
    · cases hu

variable {P : Program} {t ty : TypeId} {i : TypeInfo} {z : Value} {bytes : Nat}

/-- The source of an append: a slice's cells. -/
theorem run_append_sep (H : Own w0 w (slc e size v n xs :: ps))
    (ht : P.underlying t = some (.slice e)) (hi : P.info? e = some i) (hz : i.zero = some z) (hsize : i.size = size) (hby : i.bytes = bytes) (hzs : z.cells.size = size) (hsz : 0 < size)
    {x : Value} {m : Nat} {news : List Value} (hx : Rd w size x m news) (h1 : ∀ u ∈ news, u.oneCell' = true)
    (h63 : n + m ≤ maxLen) (hbytes : (n + m) * bytes ≤ 140737488355328) :
    ∃ v' w', (Builtin.append_ #[t, t] ty #[v, x]).run P w = .ok v' w' ∧ Own w0 w' (slc e size v' (n + m) (xs ++ news) :: ps) := by
  subst hsize
  subst hby
  obtain ⟨hl, ao, c, rfl, _, _, hnone, hcell⟩ := hx
  have hsmall : n + m ≤ 9223372036854775807 := by simpa [maxLen] using h63
  have hnl := H.slc_len
  have hlen : (xs ++ news).length = (n + m) * i.size := by rw [List.length_append, hnl, hl, Nat.add_mul]
  cases ao with
  | none =>
    obtain ⟨rfl, rfl⟩ := hnone rfl
    have hn0 : news = [] := List.eq_nil_of_length_eq_zero (by simpa using hl)
    subst hn0
    refine ⟨v, w, ?_, by simpa using H⟩
    rcases H.slc_cases with ⟨rfl, rfl, rfl, h5⟩ | ⟨g, cap, cur, rfl, _, hc1, hc2, hc3, hc4, h5⟩
    · simp [Builtin.append_, run_underlying ht, sizeOf, typeInfo, hi, Builtin.lenOf, Builtin.firstCells]
    · simp [Builtin.append_, run_underlying ht, sizeOf, typeInfo, hi, Builtin.lenOf, Builtin.firstCells, hc1, storeCells]
  | some a =>
  have hnews := hcell a rfl
  have grown : ∀ (qs : List Piece), Own w0 w qs → ∀ (old : Nat), old < n + m →
      Own w0 (w.drew.alloc (.cells (xs.toArray ++ news.toArray ++ Builtin.zeroCells z.cells (grownCap w (n + m) old e - (n + m))) e))
        (slc e i.size (.slice (some ⟨w.heap.size, 0, none⟩) (n + m) (grownCap w (n + m) old e)) (n + m) (xs ++ news) :: qs) := by
    intro qs hqs old ho
    have hge := grownCap_ge w (n + m) old e
    have hcm : grownCap w (n + m) old e ≤ maxLen := grownCap_le_maxLen w (n + m) old e h63
    refine (hqs.drew.alloc _).slc_mk hlen hge hcm ?_ ?_
    · simp only [Array.size_append, List.size_toArray, size_zeroCells, hzs, hnl, hl, ← Nat.add_mul]
      congr 1
      omega
    · simp only [Array.toList_append, List.append_assoc]
      rw [← List.append_assoc, ← hlen]
      exact List.take_left
  rcases H.slc_cases with ⟨rfl, rfl, rfl, h5⟩ | ⟨g, cap, cur, rfl, _, hc1, hc2, hc3, hc4, h5⟩
  · by_cases hm : m = 0
    · subst hm
      have hn : news = [] := List.eq_nil_of_length_eq_zero (by simpa using hl)
      subst hn
      refine ⟨.slice none 0 0, w, ?_, by simpa using H⟩
      simp [Builtin.append_, run_underlying ht, sizeOf, typeInfo, hi, Builtin.lenOf, Builtin.firstCells, loadCells, loadCellsFrom]
    · have hr := run_append_nil (P := P) w t ty e i z ht hi hz a m c news hl hnews (by omega) (by omega) (by have hb := hbytes; simp only [Nat.zero_add] at hb; omega)
      have hgr := grown _ h5 0 (by omega)
      simp only [Nat.zero_add, List.nil_append, Array.empty_append] at hgr ⊢
      exact ⟨_, _, hr, hgr⟩
  · by_cases hroom : n + m ≤ cap
    · have hfit : n * i.size + news.length ≤ cur.size := by rw [hl, hc3, ← Nat.add_mul]; exact Nat.mul_le_mul_right _ hroom
      have hr := run_append_room (P := P) w t ty e i ht hi g n cap cur h5.block.1 a m c news hl hnews h1 hroom hfit
      refine ⟨_, _, hr, ?_⟩
      have hset : Own w0 (w.setRow g (cur.toList.take (n * i.size) ++ news ++ cur.toList.drop (n * i.size + news.length)).toArray) (blk g (.cells (cur.toList.take (n * i.size) ++ news ++ cur.toList.drop (n * i.size + news.length)).toArray e) :: ps) :=
        h5.turn rfl rfl rfl (by simp [World.setRow]) (setRow_heap w g cur _ e _ h5.block.1) (fun k _ hk => setRow_other w g k _ hk)
      refine hset.slc_mk hlen hroom hc2 ?_ ?_
      · simp only [List.size_toArray, List.length_append, List.length_take, List.length_drop, Array.length_toList]
        omega
      · rw [hc4, ← hlen]
        exact List.take_left
    · have holds : ∀ j u, xs[j]? = some u → w.cell? ((⟨g, 0, none⟩ : Addr).add j) = some u := by
        obtain ⟨_, _, _, hv, _, _, _, hcl⟩ := H.rd
        cases hv
        exact hcl _ rfl
      have hr := run_append_grow (P := P) w t ty e i z ht hi hz ⟨g, 0, none⟩ n cap xs hnl holds a m c news hl hnews (by omega) (by omega) (growslice_fits (by omega) hbytes)
      exact ⟨_, _, hr, grown _ h5.drop cap (by omega)⟩

/-- 'out = append(out, ..)' in a walk, out the call's own. -/
theorem wpList_append_sep {ops : Array Oper} {rest : List Oper} {o : Oper} {a : Act} {Q : Exit → Act → World → Prop} (hgd : o.guard = none) (s x : Operand)
    (ho : o.op = .call { callee := .builtin .append, args := #[s, x], argTypes := #[t, t] })
    (ht : P.underlying t = some (.slice e)) (hinfo : (P.info? e).map (fun i => (i.zero, i.size, i.bytes)) = some (some z, size, bytes)) (hzs : z.cells.size = size) (hsz : 0 < size)
    (hs : a.eval s = v) (H : Own w0 w (slc e size v n xs :: ps))
    {m : Nat} {news : List Value} (hx : Rd w size (a.eval x) m news) (h1 : ∀ u ∈ news, u.oneCell' = true)
    (h63 : n + m ≤ 9223372036854775807) (hbytes : (n + m) * bytes ≤ 140737488355328)
    (h : ∀ v' w', Own w0 w' (slc e size v' (n + m) (xs ++ news) :: ps) → wpList P ops Q rest (a.put o.dst v') w') : wpList P ops Q (o :: rest) a w := by
  obtain ⟨i, hi, hz, hsize, hby⟩ := info_parts hinfo
  refine wpList_plain hgd fun K hK => ?_
  obtain ⟨v', w', hr, h2⟩ := run_append_sep (P := P) (ty := o.type) H ht hi hz hsize hby hzs hsz hx h1 (by simpa [maxLen] using h63) hbytes
  unfold Oper.wp execOp
  simp only [ho, resolve, invoke, builtin, Sem.run_bind, Sem.run_pure, Result.andThen_ok, List.map_toArray, List.map_cons, List.map_nil, hs, hr]
  exact hK _ _ (h v' w' h2)

/-- 'out = append(out, x)', the one new element in a fresh block (so the walk lays it). -/
theorem wpList_append_one {ops : Array Oper} {rest : List Oper} {o : Oper} {a : Act} {Q : Exit → Act → World → Prop} (hgd : o.guard = none) (s x : Operand)
    (ho : o.op = .call { callee := .builtin .append, args := #[s, x], argTypes := #[t, t] })
    (ht : P.underlying t = some (.slice e)) (hinfo : (P.info? e).map (fun i => (i.zero, i.size, i.bytes)) = some (some z, size, bytes)) (hzs : z.cells.size = size) (hsz : 0 < size)
    (hs : a.eval s = v) (H : Own w0 w (slc e size v n xs :: ps))
    {news : List Value} {c : Nat} (hx : a.eval x = .slice (some ⟨w.heap.size, 0, none⟩) 1 c) (hc : c = 1) (hl : news.length = size) (h1 : ∀ u ∈ news, u.oneCell' = true)
    (h63 : n + 1 ≤ 9223372036854775807) (hbytes : (n + 1) * bytes ≤ 140737488355328)
    (h : ∀ v' w', Own w0 w' (slc e size v' (n + 1) (xs ++ news) :: ps) → wpList P ops Q rest (a.put o.dst v') w') : wpList P ops Q (o :: rest) a (w.alloc (.cells news.toArray e)) := by
  subst hc
  refine wpList_append_sep hgd s x ho ht hinfo hzs hsz hs (H.alloc' _) (m := 1) (news := news) ?_ h1 h63 hbytes h
  rw [hx]
  exact ((H.made news e size 1 (by simpa using hl) (by simp [maxLen])).rd)
end
/-- It returns a value of which R holds. -/
def Ret (R : Value → World → Prop) (e : Ending) (w' : World) : Prop := ∃ v, e = .returned v ∧ R v w'
theorem ret_bool {a b : Bool} (h : b = a) : Ending.returned (.bool a) = .returned (.bool b) := by rw [h]
theorem ret_int {k : IntKind} {a b : Int} (h : a = b) : Ending.returned (.int k a) = .returned (.int k b) := by rw [h]
theorem val_int {k : IntKind} {a b : Int} (h : a = b) : Value.int k a = .int k b := by rw [h]
theorem val_bool {a b : Bool} (h : a = b) : Value.bool a = .bool b := by rw [h]
theorem drewN_add (w : World) (m n : Nat) : (w.drewN m).drewN n = w.drewN (m + n) := by simp [World.drewN, Nat.add_assoc]
theorem ints_get (k : IntKind) (xs : List Int) {j : Nat} (h : j < xs.length) : (xs.map (Value.int k))[j]? = some (.int k (xs.getD j 0)) := by
  simp [List.getD, h]
def sliceLen : Value → Nat | .slice _ n _ => n | _ => 0
theorem wf_bounds {a : Int} (h : (Lit.int .i64 a).wf = true) : -9223372036854775808 ≤ a ∧ a ≤ 9223372036854775807 := by
  have h1 : IntKind.i64.min = -9223372036854775808 := rfl
  have h2 : IntKind.i64.max = 9223372036854775807 := rfl
  simp only [Lit.wf, Bool.and_eq_true, decide_eq_true_eq] at h
  omega
end Go.Proofs.Ytfeamlbkogigkaa
