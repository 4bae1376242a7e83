/-
  Slices of the call's own that begin anywhere in their row (what 'xs = xs[1:]' leaves): append, reslices, stores. No program in sight.
-/
import Derived.Test.YtfeamlbkogigkaaSt
import Derived.Deep.Slices
namespace Go.Proofs.Ytfeamlbkogigkaa
open Go.RowKit

/-- A slice that lies in a row of its own, behind o cells that nobody reads: n elements of 'size' cells, the cells xs; or nil. -/
def sld (e : TypeId) (size : Nat) (v : Value) (n : Nat) (xs : List Value) : Piece := fun h =>
  xs.length = n * size ∧ ((v = .slice none 0 0 ∧ n = 0 ∧ h = []) ∨
    ∃ g o cap cur, v = .slice (some ⟨g, o, none⟩) n cap ∧ h = [(g, .cells cur e (0, 0))] ∧ n ≤ cap ∧ cap ≤ maxLen ∧ o + cap * size ≤ cur.size ∧ (cur.toList.drop o).take (n * size) = xs)

section
variable {w0 w w' : World} {p q : Piece} {ps qs : List Piece} {e : TypeId} {size n : Nat} {v : Value} {xs : List Value}

theorem sld_of_slc (h : Own w0 w (slc e size v n xs :: ps)) : Own w0 w (sld e size v n xs :: ps) :=
  h.imp fun x ⟨hl, hx⟩ => ⟨hl, by
    rcases hx with h | ⟨g, cap, cur, hv, hh, h1, h2, h3, h4⟩
    · exact .inl h
    · exact .inr ⟨g, 0, cap, cur, hv, hh, h1, h2, by omega, by simpa using h4⟩⟩
theorem Own.dnil (h : Own w0 w ps) (e : TypeId) (size : Nat) : Own w0 w (sld e size (.slice none 0 0) 0 [] :: ps) := sld_of_slc (h.nil e size)
theorem Own.sld_cases (h : Own w0 w (sld e size v n xs :: ps)) :
    (v = .slice none 0 0 ∧ n = 0 ∧ xs = [] ∧ Own w0 w ps) ∨
    ∃ g o cap cur, v = .slice (some ⟨g, o, none⟩) n cap ∧ xs.length = n * size ∧ n ≤ cap ∧ cap ≤ maxLen ∧ o + cap * size ≤ cur.size ∧ (cur.toList.drop o).take (n * size) = xs ∧ Own w0 w (blk g (.cells cur e) :: ps) := by
  have hd := h.drop
  obtain ⟨hb, x, ⟨hl, hx⟩, r⟩ := h
  rcases hx with ⟨rfl, rfl, rfl⟩ | ⟨g, o, cap, cur, rfl, rfl, h1, h2, h3, h4⟩
  · exact .inl ⟨rfl, rfl, List.eq_nil_of_length_eq_zero (by simpa using hl), hd⟩
  · exact .inr ⟨g, o, cap, cur, rfl, hl, h1, h2, h3, h4, hb, _, rfl, r⟩
theorem Own.sld_mk {g o cap : Nat} {cur : Array Value} (h : Own w0 w (blk g (.cells cur e) :: ps)) (hl : xs.length = n * size) (h1 : n ≤ cap) (h2 : cap ≤ maxLen) (h3 : o + cap * size ≤ cur.size) (h4 : (cur.toList.drop o).take (n * size) = xs) :
    Own w0 w (sld e size (.slice (some ⟨g, o, none⟩) n cap) n xs :: ps) := by
  obtain ⟨hb, x, rfl, r⟩ := h
  exact ⟨hb, _, ⟨hl, .inr ⟨g, o, cap, cur, rfl, rfl, h1, h2, h3, h4⟩⟩, r⟩
theorem Own.sld_len (h : Own w0 w (sld e size v n xs :: ps)) : xs.length = n * size := by
  obtain ⟨hb, x, ⟨hl, _⟩, _⟩ := h
  exact hl
theorem Own.drd (h : Own w0 w (sld e size v n xs :: ps)) : Rd w size v n xs := by
  rcases h.sld_cases with ⟨rfl, rfl, rfl, _⟩ | ⟨g, o, cap, cur, rfl, hl, h1, h2, h3, h4, h5⟩
  · exact Rd.nil w size
  · refine ⟨hl, _, _, rfl, h1, h2, by simp, ?_⟩
    intro ad had j u hu
    obtain rfl := Option.some.inj had
    rw [Addr.add_lit, h5.cell, ← Array.getElem?_toList]
    rw [← h4, List.getElem?_take] at hu
    split at hu
    · rw [← List.getElem?_drop]; exact hu
    · cases hu
theorem Own.dcount (h : Own w0 w (sld e size v n xs :: ps)) : sliceLen v = n := by
  obtain ⟨a, c, rfl, _⟩ := h.drd.shape
  rfl
/-- The tail. -/
theorem Own.dtail {g o cap k : Nat} (h : Own w0 w (sld e size (.slice (some ⟨g, o, none⟩) n cap) n xs :: ps)) (hk : k ≤ n) :
    Own w0 w (sld e size (.slice (some ⟨g, o + k * size, none⟩) (n - k) (cap - k)) (n - k) (xs.drop (k * size)) :: ps) := by
  rcases h.sld_cases with ⟨hv, _⟩ | ⟨g', o', cap', cur, hv, hl, h1, h2, h3, h4, h5⟩
  · cases hv
  · cases hv
    have e1 : (n - k) * size = n * size - k * size := Nat.sub_mul ..
    have e2 : (cap - k) * size = cap * size - k * size := Nat.sub_mul ..
    have e3 := Nat.mul_le_mul_right size hk
    have e4 := Nat.mul_le_mul_right size h1
    refine h5.sld_mk (by rw [List.length_drop, hl, e1]) (by omega) (by omega) (by omega) ?_
    rw [← h4, e1, List.drop_take, List.drop_drop]

variable {P : Program} {t ty : TypeId} {i : TypeInfo} {z : Value} {bytes : Nat}

theorem run_append_room_off (ht : P.underlying t = some (.slice e)) (hi : P.info? e = some i) (g o sLen sCap : Nat) (cur : Array Value) (hg : w.heap[g]? = some (.cells cur e (0, 0)))
    (a : Addr) (m c : Nat) (news : List Value) (hl : news.length = m * i.size) (hnews : ∀ j u, news[j]? = some u → w.cell? (a.add j) = some u) (h1 : ∀ u ∈ news, u.oneCell' = true)
    (hroom : sLen + m ≤ sCap) (hfit : o + sLen * i.size + news.length ≤ cur.size) :
    (Builtin.append_ #[t, t] ty #[.slice (some ⟨g, o, none⟩) sLen sCap, .slice (some a) m c]).run P w =
      .ok (.slice (some ⟨g, o, none⟩) (sLen + m) sCap) (w.setRow g (cur.toList.take (o + sLen * i.size) ++ news ++ cur.toList.drop (o + sLen * i.size + news.length)).toArray) := by
  have hf := run_firstCells_some (P := P) w i.size m a m c news hl hnews
  have hst := run_storeCells_at P g (o + sLen * i.size) e news 0 cur w hg (by simpa using hfit) h1
  simp only [Nat.add_zero] at hst
  simp [Builtin.append_, run_underlying ht, sizeOf, typeInfo, hi, Builtin.lenOf, hroom, hf, Addr.add_lit, hst]

/-- The source of an append: a slice's cells. -/
theorem run_append_sld (H : Own w0 w (sld e size v n xs :: ps))
    (ht : P.underlying t = some (.slice e)) (hi : P.info? e = some i) (hz : i.zero = some z) (hsize : i.size = size) (hby : i.bytes = bytes) (hzs : z.cells.size = size) (hsz : 0 < size)
    {x : Value} {m : Nat} {news : List Value} (hx : Rd w size x m news) (h1 : ∀ u ∈ news, u.oneCell' = true)
    (h63 : n + m ≤ maxLen) (hbytes : (n + m) * bytes ≤ 140737488355328) :
    ∃ v' w', (Builtin.append_ #[t, t] ty #[v, x]).run P w = .ok v' w' ∧ Own w0 w' (sld e size v' (n + m) (xs ++ news) :: ps) := by
  rcases H.sld_cases with ⟨rfl, rfl, rfl, h5⟩ | ⟨g, o, cap, cur, rfl, hxl, hc1, hc2, hc3, hc4, h5⟩
  · obtain ⟨v', w', hr, h'⟩ := run_append_sep (P := P) (ty := ty) (h5.nil e size) ht hi hz hsize hby hzs hsz hx h1 h63 hbytes
    exact ⟨v', w', hr, sld_of_slc h'⟩
  subst hsize
  subst hby
  obtain ⟨hl, ao, c, rfl, _, _, hnone, hcell⟩ := hx
  have hsmall : n + m ≤ 9223372036854775807 := by simpa [maxLen] using h63
  have hlen : (xs ++ news).length = (n + m) * i.size := by rw [List.length_append, hxl, hl, Nat.add_mul]
  cases ao with
  | none =>
    obtain ⟨rfl, rfl⟩ := hnone rfl
    have hn0 : news = [] := List.eq_nil_of_length_eq_zero (by simpa using hl)
    subst hn0
    refine ⟨_, w, ?_, by simpa using H⟩
    simp [Builtin.append_, run_underlying ht, sizeOf, typeInfo, hi, Builtin.lenOf, Builtin.firstCells, hc1, storeCells]
  | some a =>
  have hnews := hcell a rfl
  by_cases hroom : n + m ≤ cap
  · have hfit : o + n * i.size + news.length ≤ cur.size := by
      rw [hl, Nat.add_assoc, ← Nat.add_mul]
      exact Nat.le_trans (Nat.add_le_add_left (Nat.mul_le_mul_right _ hroom) _) hc3
    have hr := run_append_room_off (P := P) (w := w) (ty := ty) ht hi g o n cap cur h5.block.1 a m c news hl hnews h1 hroom hfit
    refine ⟨_, _, hr, ?_⟩
    have hset : Own w0 (w.setRow g (cur.toList.take (o + n * i.size) ++ news ++ cur.toList.drop (o + n * i.size + news.length)).toArray) (blk g (.cells (cur.toList.take (o + n * i.size) ++ news ++ cur.toList.drop (o + n * i.size + news.length)).toArray e) :: ps) :=
      h5.turn rfl rfl rfl (by simp [World.setRow]) (setRow_heap w g cur _ e _ h5.block.1) (fun k _ hk => setRow_other w g k _ hk)
    refine hset.sld_mk hlen hroom hc2 ?_ ?_
    · simp only [List.size_toArray, List.length_append, List.length_take, List.length_drop, Array.length_toList]
      omega
    · have e1 : o ≤ (cur.toList.take (o + n * i.size)).length := by simp; omega
      simp only [List.append_assoc]
      rw [List.drop_append_of_le_length e1, List.drop_take, show o + n * i.size - o = n * i.size by omega, hc4, ← List.append_assoc, ← hlen]
      exact List.take_left
  · have holds : ∀ j u, xs[j]? = some u → w.cell? ((⟨g, o, none⟩ : Addr).add j) = some u := by
      obtain ⟨_, _, _, hv, _, _, _, hcl⟩ := H.drd
      cases hv
      exact hcl _ rfl
    have hr := run_append_grow (P := P) w t ty e i z ht hi hz ⟨g, o, none⟩ n cap xs hxl holds a m c news hl hnews (by omega) (by omega) (growslice_fits (by omega) hbytes)
    refine ⟨_, _, hr, sld_of_slc ?_⟩
    have hge := grownCap_ge w (n + m) cap e
    have hcm : grownCap w (n + m) cap e ≤ maxLen := grownCap_le_maxLen w (n + m) cap e h63
    refine (h5.drop.drew.alloc _).slc_mk hlen hge hcm ?_ ?_
    · simp only [Array.size_append, List.size_toArray, size_zeroCells, hzs, hxl, hl, ← Nat.add_mul]
      congr 1
      omega
    · simp only [Array.toList_append, List.append_assoc]
      rw [← List.append_assoc, ← hlen]
      exact List.take_left

/-- 'out = append(out, ..)' in a walk, out the call's own. -/
theorem wpList_append_sld {ops : Array Oper} {rest : List Oper} {o : Oper} {a : Act} {Q : Exit → Act → World → Prop} (hgd : o.guard = none) (s x : Operand)
    (ho : o.op = .call { callee := .builtin .append, args := #[s, x], argTypes := #[t, t] })
    (ht : P.underlying t = some (.slice e)) (hinfo : (P.info? e).map (fun i => (i.zero, i.size, i.bytes)) = some (some z, size, bytes)) (hzs : z.cells.size = size) (hsz : 0 < size)
    (hs : a.eval s = v) (H : Own w0 w (sld e size v n xs :: ps))
    {m : Nat} {news : List Value} (hx : Rd w size (a.eval x) m news) (h1 : ∀ u ∈ news, u.oneCell' = true)
    (h63 : n + m ≤ 9223372036854775807) (hbytes : (n + m) * bytes ≤ 140737488355328)
    (h : ∀ v' w', Own w0 w' (sld e size v' (n + m) (xs ++ news) :: ps) → wpList P ops Q rest (a.put o.dst v') w') : wpList P ops Q (o :: rest) a w := by
  obtain ⟨i, hi, hz, hsize, hby⟩ := info_parts hinfo
  refine wpList_plain hgd fun K hK => ?_
  obtain ⟨v', w', hr, h2⟩ := run_append_sld (P := P) (ty := o.type) H ht hi hz hsize hby hzs hsz hx h1 (by simpa [maxLen] using h63) hbytes
  unfold Oper.wp execOp
  simp only [ho, resolve, invoke, builtin, Sem.run_bind, Sem.run_pure, Result.andThen_ok, List.map_toArray, List.map_cons, List.map_nil, hs, hr]
  exact hK _ _ (h v' w' h2)

/-- 'out = append(out, x)', the one new element in a fresh block (so the walk lays it). -/
theorem wpList_append_one_sld {ops : Array Oper} {rest : List Oper} {o : Oper} {a : Act} {Q : Exit → Act → World → Prop} (hgd : o.guard = none) (s x : Operand)
    (ho : o.op = .call { callee := .builtin .append, args := #[s, x], argTypes := #[t, t] })
    (ht : P.underlying t = some (.slice e)) (hinfo : (P.info? e).map (fun i => (i.zero, i.size, i.bytes)) = some (some z, size, bytes)) (hzs : z.cells.size = size) (hsz : 0 < size)
    (hs : a.eval s = v) (H : Own w0 w (sld e size v n xs :: ps))
    {news : List Value} {c : Nat} (hx : a.eval x = .slice (some ⟨w.heap.size, 0, none⟩) 1 c) (hc : c = 1) (hl : news.length = size) (h1 : ∀ u ∈ news, u.oneCell' = true)
    (h63 : n + 1 ≤ 9223372036854775807) (hbytes : (n + 1) * bytes ≤ 140737488355328)
    (h : ∀ v' w', Own w0 w' (sld e size v' (n + 1) (xs ++ news) :: ps) → wpList P ops Q rest (a.put o.dst v') w') : wpList P ops Q (o :: rest) a (w.alloc (.cells news.toArray e)) := by
  subst hc
  refine wpList_append_sld hgd s x ho ht hinfo hzs hsz hs (H.alloc' _) (m := 1) (news := news) ?_ h1 h63 hbytes h
  rw [hx]
  exact ((H.made news e size 1 (by simpa using hl) (by simp [maxLen])).rd)

/-- A store to a cell of such a slice. -/
theorem wpList_store_sld {ops : Array Oper} {rest : List Oper} {o : Oper} {a : Act} {Q : Exit → Act → World → Prop} (hgd : o.guard = none) (x y : Operand) (ho : o.op = .store ty x y) {g j k c : Nat} (hx : a.eval x = .pointer (some ⟨g, k + j, none⟩))
    (H : Own w0 w (sld e size (.slice (some ⟨g, k, none⟩) n c) n xs :: ps)) (u : Value) (hv : (a.eval y).cells.toList = [u]) (hi : (P.info? ty).map (·.size) = some 1) (hj : j < n * size) (h1 : u.oneCell' = true)
    (h : ∀ w', Own w0 w' (sld e size (.slice (some ⟨g, k, none⟩) n c) n (xs.set j u) :: ps) → wpList P ops Q rest (a.put o.dst undef) w') : wpList P ops Q (o :: rest) a w := by
  rcases H.sld_cases with ⟨hn, _⟩ | ⟨g', k', cap, cur, he, hl, c1, c2, c3, c4, h5⟩
  · cases hn
  · cases he
    have hle := Nat.mul_le_mul_right size c1
    refine wpList_store_blk hgd x y ho hx h5 [u] hv hi (by simp; omega) (by simpa using h1) _ rfl fun w' h' => h w' ?_
    refine h'.sld_mk (by simpa using hl) c1 c2 ?_ ?_
    · simp; omega
    · have hlen : k + j < cur.toList.length := by simp; omega
      have hset : cur.toList.take (k + j) ++ [u] ++ cur.toList.drop (k + j + [u].length) = cur.toList.set (k + j) u := by
        rw [List.set_eq_take_append_cons_drop, if_pos hlen]; simp
      rw [hset, List.toList_toArray, List.drop_set, if_neg (by omega), List.take_set, ← c4]
      congr 1
      omega
end
section
variable {w : World} {size n : Nat} {xs : List Value}
/-- The tail of what is read. -/
theorem Rd.tail {ad : Addr} {cap k : Nat} (h : Rd w size (.slice (some ad) n cap) n xs) (hk : k ≤ n) : Rd w size (.slice (some (ad.add (k * size))) (n - k) (cap - k)) (n - k) (xs.drop (k * size)) := by
  obtain ⟨hl, a, c, e, h1, h2, h3, h4⟩ := h
  cases e
  have e1 : (n - k) * size = n * size - k * size := Nat.sub_mul ..
  refine ⟨by rw [List.length_drop, hl, e1], _, _, rfl, by omega, by omega, by simp, fun ad' had j u hu => ?_⟩
  cases had
  rw [List.getElem?_drop] at hu
  rw [Go.Deep.add_add]
  exact h4 _ rfl _ _ hu
/-- A beginning of what is read. -/
theorem Rd.take {ao : Option Addr} {cap k : Nat} (h : Rd w size (.slice ao n cap) n xs) (hk : k ≤ n) : Rd w size (.slice ao k cap) k (xs.take (k * size)) := by
  obtain ⟨hl, a, c, e, h1, h2, h3, h4⟩ := h
  cases e
  have e3 := Nat.mul_le_mul_right size hk
  refine ⟨by rw [List.length_take, hl]; omega, _, _, rfl, by omega, h2, fun hn => ⟨by have := h3 hn; omega, (h3 hn).2⟩, fun ad' had j u hu => ?_⟩
  rw [List.getElem?_take] at hu
  split at hu
  · exact h4 _ had _ _ hu
  · cases hu
theorem Rd.tail1 {b o cap : Nat} {u : Value} (h : Rd w 1 (.slice (some ⟨b, o, none⟩) (n + 1) cap) (n + 1) (u :: xs)) :
    Rd w 1 (.slice (if cap = 1 then some ⟨b, o, none⟩ else some ⟨b, o + 1, none⟩) n (cap - 1)) n xs := by
  have h1 := h.tail (k := 1) (by omega)
  by_cases hc : cap = 1
  · subst hc
    obtain ⟨hl, a, c, e, hle, _⟩ := h
    cases e
    have hn : n = 0 := by omega
    subst hn
    have hx : xs = [] := by simpa using hl
    subst hx
    exact ⟨by simp, _, _, rfl, by omega, by simp [maxLen], by simp, fun ad _ j u hu => by simp at hu⟩
  · simpa [hc, Addr.add] using h1
end
section
variable {w0 w : World} {ps : List Piece} {e : TypeId} {size n : Nat} {xs : List Value}
theorem Own.dtail1 {g o cap : Nat} {u : Value} (h : Own w0 w (sld e 1 (.slice (some ⟨g, o, none⟩) (n + 1) cap) (n + 1) (u :: xs) :: ps)) :
    Own w0 w (sld e 1 (.slice (if cap = 1 then some ⟨g, o, none⟩ else some ⟨g, o + 1, none⟩) n (cap - 1)) n xs :: ps) := by
  by_cases hc : cap = 1
  · subst hc
    rcases h.sld_cases with ⟨hv, _⟩ | ⟨g', o', cap', cur, hv, hl, h1, h2, h3, h4, h5⟩
    · cases hv
    · cases hv
      have hn : n = 0 := by omega
      subst hn
      have hx : xs = [] := by simpa using hl
      subst hx
      exact h5.sld_mk (by simp) (by omega) (by simp [maxLen]) (by omega) (by simp)
  · have := h.dtail (k := 1) (by omega)
    simpa [hc] using this
end
end Go.Proofs.Ytfeamlbkogigkaa
