/-
  append of a string's bytes to a slice of the call's own; bytes made a string. No program in sight.
-/
import Derived.Test.YtnpflnplpipipaaSt
import Derived.Lib.AppendStr
import Derived.Deep.AppendSrc
import Derived.Laws.BytesArg
namespace Go.Proofs.Ytnpflnplpipipaa
open Go.RowKit Go.Lib

section
variable {w0 w w' : World} {p q : Piece} {ps qs : List Piece} {e : TypeId} {n : Nat} {v : Value} {xs : List Value}
variable {P : Program} {t u ty : TypeId} {i : TypeInfo} {z : Value}

theorem strCells_eq (s : ByteArray) : strCells s = byteCells s := by
  simp [strCells, byteCells]

theorem run_append_str_sep (H : Own w0 w (slc e 1 v n xs :: ps)) (ht : P.underlying t = some (.slice e)) (hu : P.underlying u = some .string) (hi : P.info? e = some i) (hz : i.zero = some z) (hsize : i.size = 1) (hby : i.bytes = 1) (hzs : z.cells.size = 1)
    (s : ByteArray) (h63 : n + s.size ≤ maxLen) (hbytes : n + s.size ≤ 140737488355328) :
    ∃ v' w', (Builtin.append_ #[t, u] ty #[v, .string s]).run P w = .ok v' w' ∧ Own w0 w' (slc e 1 v' (n + s.size) (xs ++ byteCells s) :: ps) := by
  have hsmall : n + s.size ≤ 9223372036854775807 := by simpa [maxLen] using h63
  have hnl := H.slc_len
  rw [Nat.mul_one] at hnl
  have hbl := byteCells_length s
  have hlen : (xs ++ byteCells s).length = (n + s.size) * 1 := by rw [List.length_append, hnl, hbl]; omega
  have src : Src P i.size u (.string s) s.size (byteCells s) w := by rw [hsize]; exact Src.ofString w hu s
  have grown : ∀ (qs : List Piece), Own w0 w qs → ∀ (old : Nat), old < n + s.size →
      Own w0 (w.drew.alloc (.cells ((xs ++ byteCells s).toArray ++ Builtin.zeroCells z.cells (grownCap w (n + s.size) old e - (n + s.size))) e))
        (slc e 1 (.slice (some ⟨w.heap.size, 0, none⟩) (n + s.size) (grownCap w (n + s.size) old e)) (n + s.size) (xs ++ byteCells s) :: qs) := by
    intro qs hqs old ho
    have hge := grownCap_ge w (n + s.size) old e
    have hcm : grownCap w (n + s.size) old e ≤ maxLen := grownCap_le_maxLen w (n + s.size) old e h63
    refine (hqs.drew.alloc _).slc_mk hlen hge hcm ?_ ?_
    · simp only [Array.size_append, List.size_toArray, size_zeroCells, hzs, hlen]
      omega
    · simp only [Array.toList_append]
      rw [← hlen]
      exact List.take_left
  rcases H.slc_cases with ⟨rfl, rfl, rfl, h5⟩ | ⟨g, cap, cur, rfl, _, hc1, hc2, hc3, hc4, h5⟩
  · by_cases h0 : s.size = 0
    · have hb0 : byteCells s = [] := List.eq_nil_of_length_eq_zero (by omega)
      refine ⟨.slice none 0 0, w, ?_, by simpa [h0, hb0] using H⟩
      simp [Builtin.append_, run_underlying ht, run_underlying hu, sizeOf, typeInfo, hi, Builtin.lenOf, h0, Builtin.firstCells]
    · have hr := run_append_grow_src (P := P) w t u ty e i z ht hi hz none 0 0 [] (run_firstCells_none (P := P) w.drew i.size 0 0 0) (.string s) s.size (byteCells s) src (by omega) (by omega) (growslice_fits (by omega) (by rw [hby]; omega))
      exact ⟨_, _, hr, grown _ h5 0 (by omega)⟩
  · by_cases hroom : n + s.size ≤ cap
    · have hr := run_append_room_string (P := P) w t u ty e i ht hu hi hsize g n cap cur h5.block.1 s hroom (by omega)
      refine ⟨_, _, hr, ?_⟩
      have hset : Own w0 (w.setRow g (cur.toList.take n ++ strCells s ++ cur.toList.drop (n + s.size)).toArray) (blk g (.cells (cur.toList.take n ++ strCells s ++ cur.toList.drop (n + s.size)).toArray e) :: ps) := h5.setRow
      refine hset.slc_mk hlen hroom hc2 ?_ ?_
      · simp only [List.size_toArray, List.length_append, List.length_take, List.length_drop, Array.length_toList, strCells_eq, hbl]
        omega
      · rw [Nat.mul_one] at hc4
        rw [hc4, ← hlen, strCells_eq]
        exact List.take_left
    · have holds : ∀ j u, xs[j]? = some u → w.cell? ((⟨g, 0, none⟩ : Addr).add j) = some u := by
        obtain ⟨_, _, _, hv, _, _, _, hcl⟩ := H.rd
        cases hv
        exact hcl _ rfl
      have hfo := run_firstCells_some (P := P) w.drew i.size n ⟨g, 0, none⟩ n cap xs (by rw [hsize]; omega) (by simpa using holds)
      have hr := run_append_grow_src (P := P) w t u ty e i z ht hi hz (some ⟨g, 0, none⟩) n cap xs hfo (.string s) s.size (byteCells s) src (by omega) (by omega) (growslice_fits (by omega) (by rw [hby]; omega))
      exact ⟨_, _, hr, grown _ h5.drop cap (by omega)⟩

/-- 'out = append(out, s...)' in a walk, out the call's own. -/
theorem wpList_append_str {ops : Array Oper} {rest : List Oper} {o : Oper} {a : Act} {Q : Exit → Act → World → Prop} (hgd : o.guard = none) (x y : Operand)
    (ho : o.op = .call { callee := .builtin .append, args := #[x, y], argTypes := #[t, u] })
    (ht : P.underlying t = some (.slice e)) (hu : P.underlying u = some .string) (hinfo : (P.info? e).map (fun i => (i.zero, i.size, i.bytes)) = some (some z, 1, 1)) (hzs : z.cells.size = 1)
    (hs : a.eval x = v) (H : Own w0 w (slc e 1 v n xs :: ps)) {s : ByteArray} (hx : a.eval y = .string s)
    (h63 : n + s.size ≤ 140737488355328)
    (h : ∀ v' w', Own w0 w' (slc e 1 v' (n + s.size) (xs ++ byteCells s) :: ps) → wpList P ops Q rest (a.put o.dst v') w') : wpList P ops Q (o :: rest) a w := by
  obtain ⟨i, hi, hz, hsize, hby⟩ := info_parts hinfo
  refine wpList_plain hgd fun K hK => ?_
  obtain ⟨v', w', hr, h2⟩ := run_append_str_sep (P := P) (ty := o.type) H ht hu hi hz hsize hby hzs s (by simp only [maxLen]; omega) h63
  unfold Oper.wp execOp
  simp only [ho, resolve, invoke, builtin, Sem.run_bind, Sem.run_pure, Result.andThen_ok, List.map_toArray, List.map_cons, List.map_nil, hs, hx, hr]
  exact hK _ _ (h v' w' h2)

/-- bytes made a string -/
theorem run_string_sep (src dst : TypeId) (hs : P.underlying src = some (.slice e)) (he : P.underlying e = some (.int .u8)) (hd : P.underlying dst = some .string) {ns : List Int} (h : Rd w 1 v n (ns.map (.int .u8))) :
    (convert src dst v).run P w = .ok (.string (strOfNums ns)) w := by
  have hl : ns.length = n := by have := h.len; simpa using this
  by_cases h0 : n = 0
  · subst h0
    obtain ⟨a, c, rfl, _, _⟩ := h.shape
    obtain rfl := List.eq_nil_of_length_eq_zero hl
    cases a with
    | none => rw [run_convert_bytes_nil w src e hs he 0 c dst hd]; rfl
    | some ad =>
      rw [run_convert_bytes_string w src dst e _ 0 c hs he hd, run_bytesToString w ad 0 c [] (by simp [loadCells, loadCellsFrom])]
      rfl
  · obtain ⟨b, o, c, rfl, _, _, hc⟩ := h.at (by simp; omega)
    refine run_convert_bytes_arg w src e hs he b o n c ns hl (fun j hj => ?_) dst hd
    exact hc j _ (ints_get _ _ (by omega))
end
end Go.Proofs.Ytnpflnplpipipaa
